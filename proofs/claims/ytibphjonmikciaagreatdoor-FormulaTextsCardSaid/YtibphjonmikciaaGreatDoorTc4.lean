/- Part of the proof: what the last text builds on. No condition stands here. -/
import Derived.Test.YtibphjonmikciaaGreatDoorProg
import Derived.Test.YtibphjonmikciaaGreatDoorRows
import Derived.Test.YtibphjonmikciaaGreatDoorCards
import Derived.Test.YtibphjonmikciaaGreatDoorTie
import Derived.Test.YtibphjonmikciaaGreatDoorTc3
set_option linter.unusedSimpArgs false
set_option linter.unusedVariables false
set_option maxRecDepth 20000
namespace Go.Fo
open Go Go.Av Go.Lexs Go.Lin
def D3:ByteArray:=⟨#[]⟩
def Q5:Fm:=.mk 0 0 nilL D3 []
def A24(l:LinV):Fm:=.mk 2 0 l D3 []
def shL(l:LinV)(sg:Int):LinV:=⟨l.t.map fun t=>⟨t.v,sg*t.c⟩,sg*l.k-1,false⟩
def opL(l:LinV):Fm:=if l.e=true then .mk 6 0 nilL D3 [A24 (shL l 1),A24 (shL l (-1))]else A24 (shL l (-1))
def opO(o:Int)(b:Bool):Int:=if b=true then 11-o else o
def normF:Fm→Bool→Fm
 | .mk o n l s ks,b=>
  if o=1 then .mk o (if b=true then 1-n else n) l s ks
  else if o=2 then(if b=true then opL l else .mk o n l s ks)
  else if o=3 then(if b=true then .mk 4 0 nilL D3 [.mk o n l s ks]else .mk o n l s ks)
  else if o=4 then normH ks (!b)
  else .mk (opO o b) 0 nilL D3 (normK ks b)
where
 normH:List Fm→Bool→Fm
 | [],_=>Q5
 |f::_,b=>normF f b
 normK:List Fm→Bool→List Fm
 | [],_=>[]
 |f::fs,b=>normF f b::normK fs b
theorem B7Y(ks:List Fm)(b:Bool):normF.normK ks b=ks.map (normF · b):=by
 induction ks with
 |nil=>rfl
 |cons f fs d=>rw[normF.normK,d];rfl
theorem C2W{f:Fm}(b:Bool)(h:f.op=1):normF f b= .mk 1 (if b=true then 1-f.n else f.n) f.l f.s f.ks:=by
 obtain⟨o,n,l,s,ks⟩:=f;simp only[Fm.op]at h;subst h;rw[normF,if_pos rfl];rfl
theorem C2X{f:Fm}(b:Bool)(h:f.op=2):normF f b=if b=true then opL f.l else f:=by
 obtain⟨o,n,l,s,ks⟩:=f;simp only[Fm.op]at h;subst h;rw[normF,if_neg (by decide),if_pos rfl];rfl
theorem C2Y{f:Fm}(b:Bool)(h:f.op=3):normF f b=if b=true then .mk 4 0 nilL D3 [f]else f:=by
 obtain⟨o,n,l,s,ks⟩:=f;simp only[Fm.op]at h;subst h;rw[normF,if_neg (by decide),if_neg (by decide),if_pos rfl]
theorem C2Z{f k:Fm}(b:Bool)(h:f.op=4)(hk:f.ks= [k]):normF f b=normF k (!b):=by
 obtain⟨o,n,l,s,ks⟩:=f;simp only[Fm.op]at h;simp only[Fm.ks]at hk;subst h;subst hk;rw[normF,if_neg (by decide),if_neg (by decide),if_neg (by decide),if_pos rfl];rfl
theorem B7Z{f:Fm}(b:Bool)(h1:f.op≠1)(d:f.op≠2)(e:f.op≠3)(g:f.op≠4):normF f b= .mk (opO f.op b) 0 nilL D3 (f.ks.map (normF · b)):=by
 obtain⟨o,n,l,s,ks⟩:=f;simp only[Fm.op]at h1 d e g;rw[normF,if_neg h1,if_neg d,if_neg e,if_neg g,B7Y];rfl
theorem A4D(l:LinV):lin0 l=true↔l=nilL:=by
 obtain⟨t,k,e⟩:=l;unfold lin0 nilL;simp only[D1m,D1v,Bool.not_eq_true',LinV.mk.injEq];exact and_assoc
theorem B39{s:ByteArray}(h:s.size=0):s=D3:=by
 obtain⟨d⟩:=s;have:d= #[]:=Array.eq_empty_of_size_eq_zero h;subst this;rfl
inductive A5e:Fm→Prop
 |con (n:Int) (h:n=0∨n=1):A5e (.mk 1 n nilL D3 [])
 |lin (l:LinV) (h:validL l=true) (hp: ∀t∈l.t,plainB t.v=true):A5e (.mk 2 0 l D3 [])
 |var (s:ByteArray) (h:plainB s=true):A5e (.mk 3 0 nilL s [])
 |not (k:Fm):A5e (.mk 4 0 nilL D3 [k])
 |and(ks:List Fm):A5e (.mk 5 0 nilL D3 ks)
 |or (ks:List Fm):A5e (.mk 6 0 nilL D3 ks)
theorem B7a{f:Fm}(h:D5 f=true):A5e f:=by
 unfold D5 at h;by_cases h1:f.op=1
 ·rw[if_pos h1]at h;obtain⟨o,n,l,s,ks⟩:=f;simp only[Fm.op,Fm.n,Fm.l,Fm.s,Fm.ks,D1m,D2w,List.isEmpty_iff]at h h1;obtain⟨⟨⟨hn,hs⟩,hl⟩,hk⟩:=h;have hn:n=0∨n=1:=hn.imp D1a D1a;rw[h1,B39 (D1a hs),(A4D l).1 hl,hk];exact .con n hn
 ·rw[if_neg h1]at h;by_cases d:f.op=2
  ·rw[if_pos d]at h;obtain⟨o,n,l,s,ks⟩:=f;simp only[Fm.op,Fm.n,Fm.l,Fm.s,Fm.ks,D1m,List.isEmpty_iff,D2A]at h d;obtain⟨⟨⟨⟨hn,hs⟩,hk⟩,hl⟩,hp⟩:=h;rw[d,show n=0 from D1a hn,B39 (D1a hs),hk];exact .lin l hl hp
  ·rw[if_neg d]at h;by_cases e:f.op=3
   ·rw[if_pos e]at h;obtain⟨o,n,l,s,ks⟩:=f;simp only[Fm.op,Fm.n,Fm.l,Fm.s,Fm.ks,D1m,List.isEmpty_iff]at h e;obtain⟨⟨⟨hn,hl⟩,hk⟩,hp⟩:=h;rw[e,show n=0 from D1a hn,(A4D l).1 hl,hk];exact .var s hp
   ·rw[if_neg e]at h;by_cases g:f.op=4
    ·rw[if_pos g]at h;obtain⟨o,n,l,s,ks⟩:=f;simp only[Fm.op,Fm.n,Fm.l,Fm.s,Fm.ks,D1m]at h g;obtain⟨⟨⟨hn,hs⟩,hl⟩,hk⟩:=h;obtain⟨k,rfl⟩:=List.length_eq_one_iff.1 (show ks.length=1 from D1a hk);rw[g,show n=0 from D1a hn,B39 (D1a hs),(A4D l).1 hl];exact .not k
    ·rw[if_neg g]at h;by_cases h5:f.op=5∨f.op=6
     ·rw[if_pos h5]at h;obtain⟨o,n,l,s,ks⟩:=f;simp only[Fm.op,Fm.n,Fm.l,Fm.s,Fm.ks,D1m]at h h5;obtain⟨⟨hn,hs⟩,hl⟩:=h;rw[show n=0 from D1a hn,B39 (D1a hs),(A4D l).1 hl];rcases h5 with rfl|rfl
      ·exact .and ks
      ·exact .or ks
     ·rw[if_neg h5]at h;cases h
theorem V4{f:Fm}(h:G8 D5 f=true):A5e f:=by
 rw[A1k,D1m]at h;exact B7a h.1
theorem N9{f:Fm}{p:Fm→Bool}(h:G8 p f=true){k:Fm}(hk:k∈f.ks):G8 p k=true:=by
 rw[A1k,D1m,D2A]at h;exact h.2 k hk
def B7b(f:Fm):Fm×Int:=if E3 f=true then(if E3 (normF f true)=true then(normF f true,0)else(Q5,3))else(Q5,2)
theorem M5{f:Fm}(h:E3 f=true):G8 D5 f=true:=by
 rw[A1H]at h;simp only[D1m]at h;exact h.1.1.1.1
theorem A3X{s:ByteArray}(h:G5 (B s)=true):s.size≤200:=by
 unfold G5 at h;simp only[D1m,D1v]at h;have:=h.1.1.2;simpa [B]using this
theorem B2u{l:LinV}(h:validL l=true)(d:Int)(hs:d=1∨d= -1):S7 (shL l d):=by
 have ok:=K7 h;refine⟨by unfold shL;simp only[D2I];have:=ok.len;omega,fun t e=>?_,fun t e=>?_,?_⟩
 ·obtain⟨x,hx,rfl⟩:=D2X.1 (show t∈l.t.map _ from e);have:=A3X (N0 ok.t x hx).1;show x.v.size≤_;omega
 ·obtain⟨x,hx,rfl⟩:=D2X.1 (show t∈l.t.map _ from e);have:=(N0 ok.t x hx).2.2;show S8 (d*x.c);unfold S8;rcases hs with rfl|rfl<;>omega
 ·have:=ok.k;show S8 (d*l.k-1);unfold S8;rcases hs with rfl|rfl<;>omega
theorem A1o:S7 nilL:=⟨by simp[nilL],by simp[nilL],by simp[nilL],by simp[nilL,S8]⟩
theorem A2O{l:LinV}(h:S7 l):FmFit (A24 l):=.mk _ _ _ _ _ (by simp[S8]) (by simp[S8]) h (by decide) (by simp) (by simp)
theorem T9{o:Int}{ks:List Fm}(ho:S8 o)(hl:ks.length≤1466015503658)(h: ∀k∈ks,FmFit k):FmFit (.mk o 0 nilL D3 ks):=.mk _ _ _ _ _ ho (by simp[S8]) A1o (by decide) hl h
theorem B1O: ∀(f:Fm) (b:Bool),G8 D5 f=true→FmFit f→FmFit (normF f b)∧J5 (normF f b)≤3*J5 f:=by
 intro f
 induction f using R4 with
 |h o n l s ks i=>
  intro b r e;have hk: ∀k∈ks,G8 D5 k=true:=fun k hk=>N9 (f:=.mk o n l s ks) r hk;have j: ∀k∈ks,FmFit k:=fun k hk=>e.kid hk;have d: ∀(p:Int),p=5∨p=6→FmFit (normF (.mk p 0 nilL D3 ks) b)∧J5 (normF (.mk p 0 nilL D3 ks) b)≤3*J5 (.mk p 0 nilL D3 ks):=by
   intro p hp;rw[B7Z b (by show p≠1;omega) (by show p≠2;omega) (by show p≠3;omega) (by show p≠4;omega)];refine⟨T9 (by show S8 (opO p b);unfold opO S8;split<;>omega) (by rw[D2I];exact e.kl) fun k hm=>?_,?_⟩
   ·obtain⟨x,hx,rfl⟩:=D2X.1 hm;exact(i x hx b (hk x hx) (j x hx)).1
   ·have key: ∀m:List Fm,(∀k∈m,k∈ks)→J5.wtL (m.map (normF · b))≤3*J5.wtL m:=by
     intro m
     induction m with
     |nil=>intro _;simp[J5.wtL]
     |cons g y q=>
      intro hm;have z:=(i g (hm g (D1k ..)) b (hk g (hm g (D1k ..))) (j g (hm g (D1k ..)))).2;have A:=q fun k h=>hm k (D1r _ h);rw[D2q,J5.wtL,J5.wtL];omega
    rw[K5,K5];have:=key ks fun _ h=>h;show 1+([]:List LTm).length+J5.wtL (ks.map (normF · b))≤3*(1+([]:List LTm).length+J5.wtL ks);simp only[D1g];omega
  cases V4 r with
  |con n h=>
   rw[C2W b rfl];refine⟨.mk _ _ _ _ _ (by simp[S8]) ?_ A1o (show D3.size≤_ by decide) (by simp[Fm.ks]) (by simp[Fm.ks]),?_⟩
   ·show S8 (if b=true then 1-n else n);unfold S8;split<;>omega
   ·rw[K5,K5];simp only[Fm.l,Fm.ks];omega
  |lin l h hp=>
   rw[C2X b rfl];cases b with
   |false=>exact⟨e,by simp only[D1p,if_false];omega⟩
   |true=>
    simp only[if_true,Fm.l];unfold opL;split
    ·refine⟨T9 (by simp[S8]) (by simp) fun k hm=>?_,?_⟩
     ·simp only[D11,D12,or_false]at hm;rcases hm with rfl|rfl
      ·exact A2O (B2u h _ (.inl rfl))
      ·exact A2O (B2u h _ (.inr rfl))
     ·rw[K5,K5];simp[Fm.l,Fm.ks,J5.wtL,K5,A24,shL,nilL];omega
    ·refine⟨A2O (B2u h _ (.inr rfl)),?_⟩;rw[K5,K5];simp[Fm.l,Fm.ks,J5.wtL,A24,shL];omega
  |var s h=>
   rw[C2Y b rfl];cases b with
   |false=>exact⟨e,by simp only[D1p,if_false];omega⟩
   |true=>
    simp only[if_true];refine⟨T9 (by simp[S8]) (by simp) fun k hm=>?_,?_⟩
    ·rw[D10]at hm;rw[hm];exact e
    ·rw[K5,K5];simp[Fm.l,Fm.ks,J5.wtL,K5,nilL]
  |not k=>
   rw[C2Z b rfl rfl];have:=i k (D1k ..) (!b) (hk k (D1k ..)) (j k (D1k ..));refine⟨this.1,?_⟩;have u:J5 (.mk 4 0 nilL D3 [k])=1+J5 k:=by rw[K5];simp[Fm.l,Fm.ks,J5.wtL,nilL]
   rw[u];omega
  |and ks=>exact d 5 (.inl rfl)
  |or ks=>exact d 6 (.inr rfl)
end Go.Fo
namespace Go.Lin
open Go Go.Av
theorem O3.one{H Hp:Heap}{sz:Nat}{e1:List (List D)}{o1:Option Nat}(h:O3 H Hp sz e1 [] [] o1 none none):H.Le (L5 Hp o1):=by
 have:=h.last.1;exact fun k o hk=>this k o hk
theorem A67{α β :Type}(f: α → β)(l:List α)(i:Nat)(h:i<l.length):(l.take (i+1)).map f=(l.take i).map f++[f l[i]]:=by
 rw[D1s h,D2Z];rfl
theorem A9Z{α β :Type}(f: α → β)(l:List α)(i:Nat)(h:i≤l.length):((l.take i).map f).length=i:=by rw[D2I,D2H];omega
end Go.Lin
namespace Go.Proofs.YtibphjonmikciaaGreatDoor
open Go Go.Av Go.Lin
attribute [local irreducible] ACalls Q4
theorem A8E{Q}(l:List Row)(e:Row)(k n:Nat)(hlen:l.length≤1000000)(hn:n≤1000000)(hw: ∀r∈l,r.c.length=n)(he:e.c.length=n)(hk:k<n)(hr: ∀r∈l,A5w r 18446744073709551616)(a4:A5w e 18446744073709551616)(a5: ∀r∈l,∀x∈r.c,x.natAbs≤4294967296)(a6: ∀x∈e.c,x.natAbs≤4294967296)(H:Heap)
  (h:Q (.sl 4 (Rw C5 (l.map (T7 e k)))) H):D8 253 [.sl 4 (Rw C5 l),.agg (C5 e),.int .i64 (k:Int)] H Q:=by
 refine A8 [(7,.par)] A5 Tryz.func253 rfl ?_;simp only[go_sem,seval,Tryz.results253];intro z a9;have e4:(H.set z (.box (C5 e))) z=some (.box (C5 e)):=A0 _ _;have L:H.Le (H.set z (.box (C5 e))):=A2 a9;generalize H.set z (.box (C5 e))=Bs at e4 L⊢;have z0:D.nilsl=J8 4 ((l.take 0).map (T7 e k)).length none:=rfl;repeat' (first|with_reducible apply D1Z|simp only[go_sem,seval]|simp(disch:=omega) only[A4,A9,I2]|simp(disch:=first|omega|grind) only[B3]|(intro d;try simp only[A6]at d)|omega)
 refine C2 [2,4,11,12] (fun(p:Nat×Option Nat×Heap)=>[(13,.int .i64 p.1),(7,J8 4 p.1 p.2.1)]) (fun(p:Nat×Option Nat×Heap)=>p.2.2) (fun(p:Nat×Option Nat×Heap)=>p.1≤l.length∧O3 Bs p.2.2 4 (Rw C5 ((l.take p.1).map (T7 e k))) [] [] p.2.1 none none) (fun(p:Nat×Option Nat×Heap)=>l.length-p.1) ((0,none,Bs)) (⟨D1u _,O3.nil Bs 4⟩) (by simp only[go_sem,seval]) (D20 _) ?_;rintro Ec rfl ⟨i,o1,Hp⟩ ⟨hi,G⟩;simp only at hi G;by_cases o:i<l.length
 ·have I:decide ((i:Int)<l.length)=true:=D1b (by omega);have b2:(i:Int)<l.length:=by omega
  have b3:=hw _ (D1n o);have u:k<l[i].c.length:=by omega
  have W:(k:Int)<l[i].c.length:=by omega
  have J:k<e.c.length:=by omega
  have X:(k:Int)<e.c.length:=by omega
  have gk:=I2 l[i].c k u;have ge:=I2 e.c k J;have fs:=A67 (T7 e k) l i o;have fl:=A9Z (T7 e k) l i hi;have q4:Hp z=some (.box (C5 e)):=G.le _ _ e4;by_cases c0:l[i].c[k]=0
  ·have s:l[i].c[k].sign=0:=by rw[c0];rfl
   have er:T7 e k l[i]=l[i]:=by unfold T7;rw[gk,if_pos c0]
   repeat' (first|with_reducible apply D1Z|simp only[go_sem,seval,I,A9 _ _ o,C0 _ _ o,A9 _ _ u,C0 _ _ u,W,s,decide_true,D2x]|simp(disch:=first|omega|grind) only[B3]|(intro d;try simp only[A6]at d)|with_reducible refine L9 _ _ ?_|omega)
   rename_i q h9 j M bx;have O:=d;clear d;have A:Hp.Le ((Hp.set q (.box (C5 l[i]))).set j (.box (C4 l[i].c[k]))):=(by simp only[D7,C9,D0]at* <;>grind)
   obtain⟨R,T⟩: ∃R,R=(Hp.set q (.box (C5 l[i]))).set j (.box (C4 l[i].c[k])):=⟨_,rfl⟩
   have m:Hp.Le R:=by rw[T];exact A
   rw[←T];have C:R bx=none:=by rw[T];simp only[A6];exact O
   refine A5V (P:=Tryz.prog) (H0:=R) (es:=Rw C5 ((l.take i).map (T7 e k))) C (by simp) (G.a1.up m) (by rw[D6,fl]) (by simp only[D1e,D1g];omega) (by simp only[D1e,D1g];omega) fun Y H' hA=>?_;repeat' (first|simp only[go_sem,seval]|simp(disch:=omega) only[A4,A9,I2])
   have U:Rw C5 ((l.take (i+1)).map (T7 e k))=Rw C5 ((l.take i).map (T7 e k))++[C5 (l[i])]:=by rw[fs,er,←P1];rfl
   have V:Apd R 4 o1 (Rw C5 ((l.take (i+1)).map (T7 e k))) Y H':=by rw[U];exact hA
   refine C1 (i+1,some Y,H') ⟨by simp only[];omega,G.app1 m V⟩ (by simp only[];omega) (by(try simp only[go_sem,seval,K6])<;>(try simp(disch:=omega) [A4])) (D20 _)
  ·have s: ¬(l[i].c[k].sign=0):=fun g=>c0 (Int.sign_eq_zero_iff_zero.1 g);repeat' (first|with_reducible apply D1Z|simp only[go_sem,seval,I,A9 _ _ o,C0 _ _ o,A9 _ _ u,C0 _ _ u,W,s,decide_false,D2y]|(intro d;try simp only[A6]at d)|with_reducible refine L9 _ _ ?_|omega)
   rename_i q h9 j;have M:=d;clear d;obtain⟨b0,M⟩:=M;have e9:((Hp.set q (.box (C5 l[i]))).set j (.box (C4 l[i].c[k]))) q=some (.box (C5 l[i])):=by rw[A3 _ (Ne.symm b0),A0]
   have a0:((Hp.set q (.box (C5 l[i]))).set j (.box (C4 l[i].c[k]))) j=some (.box (C4 l[i].c[k])):=A0 _ _;have m:Hp.Le (((Hp.set q (.box (C5 l[i]))).set j (.box (C4 l[i].c[k]))).del q):=(by simp only[D7,C9,D0]at* <;>grind)
   have f4:=(m.trans (E5 _ _)) _ _ q4;have b6:z≠q:=fun g=>by rw[g,h9]at q4;cases q4
   generalize (Hp.set q (.box (C5 l[i]))).set j (.box (C4 l[i].c[k]))=Hq at e9 a0 m f4⊢;have m4:z∈[z,q,j]:=by simp
   have m9:q∈[z,q,j]:=by simp
   have b1:j∈[z,q,j]:=by simp
   have a1:=a5 _ (D1n o) _ (D1n u);have a2:=a6 _ (D1n J);have a3:=A1j a1 a2;obtain⟨t,ht⟩: ∃t:Int,t=1:=⟨1,rfl⟩
   obtain⟨x,hx⟩: ∃x:Int,x=l[i].c[k]:=⟨_,rfl⟩
   obtain⟨y,hy⟩: ∃y:Int,y=e.c[k]:=⟨_,rfl⟩
   have er:T7 e k l[i]=A2J l[i] t e (-(x*y)):=by unfold T7;rw[gk,if_neg c0,ge,ht,hx,hy]
   rw[←hx]at a1 a3;rw[←hy]at a2 a3;have s1:Sz x:=H9 (by omega);have s2:Sz y:=H9 (by omega);refine F7 (fun i'=>if i'=1 then .agg (C4 t)else if i'=9 then .agg (C4 (x*y))else if i'=10 then .agg (C4 (-(x*y)))else if i'=11 then .agg (C5 (A2J l[i] t e (-(x*y))))else .undef) [z,q,j] ?_;repeat' (first|with_reducible apply D1Z|simp only[go_sem,seval,e9,a0,f4,m4,m9,b1,A9 _ _ J,C0 _ _ J,X,←hx,←hy]|(intro d;try simp only[A6]at d)|with_reducible refine S6 (fun H' Q hro hq=>y9 1 (by omega) (by omega) H' (by rw[←ht];exact hq)) ?_|with_reducible refine S6 (fun H' Q hro hq=>T8 x y s1 s2 H' hq) ?_|with_reducible refine S6 (fun H' Q hro hq=>A4x (x*y) H' hq) ?_|with_reducible refine S6 (fun H' Q hro hq=>B7K l[i] e t (-(x*y)) (by omega) (by omega) (hr _ (D1n o)) a4 (by omega) (by omega) H' hq) ?_|omega)
   rename_i bx;have O:=d;clear d;have A:Hp.Le (Hq.set q (.box (C5 (A2J l[i] t e (-(x*y)))))):=(by simp only[D7,C9,D0]at* <;>grind)
   obtain⟨R,T⟩: ∃R,R=Hq.set q (.box (C5 (A2J l[i] t e (-(x*y))))):=⟨_,rfl⟩
   have m:Hp.Le R:=by rw[T];exact A
   rw[←T];have C:R bx=none:=by rw[T];simp only[A6];exact O
   refine A5V (P:=Tryz.prog) (H0:=R) (es:=Rw C5 ((l.take i).map (T7 e k))) C (by simp) (G.a1.up m) (by rw[D6,fl]) (by simp only[D1e,D1g];omega) (by simp only[D1e,D1g];omega) fun Y H' hA=>?_;repeat' (first|simp only[go_sem,seval]|simp(disch:=omega) only[A4,A9,I2])
   have U:Rw C5 ((l.take (i+1)).map (T7 e k))=Rw C5 ((l.take i).map (T7 e k))++[C5 (A2J l[i] t e (-(x*y)))]:=by rw[fs,er,←P1];rfl
   have V:Apd R 4 o1 (Rw C5 ((l.take (i+1)).map (T7 e k))) Y H':=by rw[U];exact hA
   refine C1 (i+1,some Y,H') ⟨by simp only[];omega,G.app1 m V⟩ (by simp only[];omega) (by(try simp only[go_sem,seval,K6])<;>(try simp(disch:=omega) [A4])) (D20 _)
 ·have I:decide ((i:Int)<l.length)=false:=D1c (by omega);have e1:l.take i=l:=D1o (by omega);have e2:i=l.length:=by omega
  rw[e1]at G;repeat' simp only[go_sem,seval,I]
  exact Fin.out (by rw[D6,D2I];exact e2) G.a1 (D21 (L.trans (O3.one G)) h)
end Go.Proofs.YtibphjonmikciaaGreatDoor
namespace Go.Av
theorem OutAt.ne{H:Heap}{sz:Nat}{es:List (List D)}{o:Option Nat}(h:OutAt H sz es o){b:Nat}(hb:H b=none):o≠some b:=fun e=>by
 have:=h.some_of e;rw[hb]at this;cases this
theorem O3.less{H H' Hp:Heap}{sz:Nat}{e1 e2 e3:List (List D)}{o1 o2 o3:Option Nat}(h:O3 H Hp sz e1 e2 e3 o1 o2 o3)(hl:H'.Le H):O3 H' Hp sz e1 e2 e3 o1 o2 o3:=
 ⟨hl.trans h.le,h.a1,h.a2,h.a3,fun b e=>hl.none (h.n1 b e),fun b e=>hl.none (h.n2 b e),fun b e=>hl.none (h.n3 b e),h.d12,h.d13,h.d23⟩
theorem O3.grow{H Hp:Heap}{sz:Nat}{e1 e2 e3:List (List D)}{o1 o2 o3:Option Nat}(h:O3 H Hp sz e1 e2 e3 o1 o2 o3){b:Nat}(hb:Hp b=none)(x:Go.Av.Obj):O3 (H.set b x) (Hp.set b x) sz e1 e2 e3 o1 o2 o3:=by
 have d:=A2 (o:=x) hb;have nn: ∀{c:Nat} {o:Option Nat} {e:List (List D)},OutAt Hp sz e o→o=some c→H c=none→(H.set b x) c=none:=fun {c o e} g e hn=>by
  rw[A3 _ (by rintro rfl;exact g.ne hb e)];exact hn
 refine⟨fun k o hk=>?_,h.a1.up d,h.a2.up d,h.a3.up d,fun c e=>nn h.a1 e (h.n1 c e),fun c e=>nn h.a2 e (h.n2 c e),fun c e=>nn h.a3 e (h.n3 c e),h.d12,h.d13,h.d23⟩;by_cases e:k=b
 ·subst e;rw[A0]at hk⊢;exact hk
 ·rw[A3 _ e]at hk⊢;exact h.le k o hk
theorem O3.put{H:Heap}{sz:Nat}{es:List (List D)}{ob:Option Nat}(d:ob=none→es= [])(h1: ∀b,ob=some b→H b=none):O3 H (putB H sz es ob) sz es [] [] ob none none:=by
 refine⟨?_,B41 d,rfl,rfl,h1,by simp,by simp,by simp,by simp,by simp⟩;cases ob with
 |none=>exact D20 H
 |some b=>exact A2 (h1 b rfl)
theorem O3.set1{H Hp g:Heap}{sz c:Nat}{e1 e2 e3 e1':List (List D)}{o2 o3:Option Nat}(h:O3 H Hp sz e1 e2 e3 (some c) o2 o3)(d:Hp.Le g):O3 H (g.set c (.vec sz e1')) sz e1' e2 e3 (some c) o2 o3:=by
 have up: ∀{e:List (List D)} {o:Option Nat},OutAt Hp sz e o→o≠some c→OutAt (g.set c (.vec sz e1')) sz e o:=fun {e o} i hn=>by
  cases o with
  |none=>exact i
  |some b=>show (g.set c _) b=_;rw[A3 _ (by rintro rfl;exact hn rfl)];exact d _ _ i
 refine⟨fun k o hk=>?_,A0 _ _,up h.a2 (h.d12 _ rfl),up h.a3 (h.d13 _ rfl),h.n1,h.n2,h.n3,h.d12,h.d13,h.d23⟩;rw[A3 _ (by rintro rfl;have:=h.n1 _ rfl;rw[this]at hk;cases hk)];exact d _ _ (h.le _ _ hk)
end Go.Av
namespace Go.Lin
open Go Go.Av
def A0Z(l:List Row)(k:Nat)(i j:Nat):List Row:=V1 l k++((J0 l k).take i).flatMap (fun a=>(F9 l k).map fun b=>A1g a b k false)++((F9 l k).take j).map fun b=>A1g ((J0 l k).getD i default) b k false
theorem A8F(l:List Row)(k:Nat):A0Z l k 0 0=V1 l k:=by simp[A0Z]
theorem A8G(l:List Row)(k i:Nat)(h:i<(J0 l k).length):A0Z l k i (F9 l k).length=A0Z l k (i+1) 0:=by
 unfold A0Z;rw[D1s h,List.take_length,List.flatMap_append];simp[h]
theorem B1P(l:List Row)(k:Nat):A0Z l k (J0 l k).length 0=A2r l k false:=by simp[A0Z,A2r]
theorem A8H(l:List Row)(k i j:Nat)(h:j<(F9 l k).length):A0Z l k i (j+1)=A0Z l k i j++[A1g ((J0 l k).getD i default) (F9 l k)[j] k false]:=by
 unfold A0Z;rw[D1s h,D2Z,←D2N];rfl
theorem B7c(l:List Row)(k i j:Nat)(hl:l.length≤10000)(g:i≤10000):(A0Z l k i j).length≤100020000:=by
 unfold A0Z;rw[D1f,D1f,D2I,D2H];have h1:(V1 l k).length≤l.length:=X9 _;have h:(F9 l k).length≤l.length:=X9 _;have key: ∀(m:List Row),(m.flatMap fun a=>(F9 l k).map fun b=>A1g a b k false).length=m.length*(F9 l k).length:=by
  intro m
  induction m with
  |nil=>simp
  |cons a m d=>rw[List.flatMap_cons,D1f,d,D2I,D1e,Nat.succ_mul];omega
 rw[key];have e:((J0 l k).take i).length≤10000:=by rw[D2H];omega
 have o:((J0 l k).take i).length*(F9 l k).length≤10000*10000:=Nat.mul_le_mul e (by omega);omega
end Go.Lin
namespace Go.Proofs.YtibphjonmikciaaGreatDoor
open Go Go.Av Go.Lin
attribute [local irreducible] ACalls Q4
theorem B7d{Q}(l:List Row)(k n:Nat)(hlen:l.length≤10000)(hn:n≤1000000)(hw: ∀r∈l,r.c.length=n)(hk:k<n)(hr: ∀r∈l,A5w r 18446744073709551616)(H:Heap)
  (h:Q (.sl 4 (Rw C5 (A2r l k false))) H):D8 226 [.sl 4 (Rw C5 l),.int .i64 (k:Int),.bool false] H Q:=by
 refine A8 [(9,.par),(12,.par)] A5 Tryz.func226 rfl ?_;simp only[go_sem,seval,Tryz.results226];have wl: ∀r∈J0 l k,r∈l:=fun r hr=>(List.mem_filter.1 hr).1;have wh: ∀r∈F9 l k,r∈l:=fun r hr=>(List.mem_filter.1 hr).1;have l1:(J0 l k).length≤10000:=D2f (X9 _) hlen;have l2:(F9 l k).length≤10000:=D2f (X9 _) hlen;obtain⟨t,ht⟩: ∃t:Int,t=1:=⟨1,rfl⟩
 repeat' (first|with_reducible apply D1Z|simp only[go_sem,seval]|simp(disch:=omega) only[A4,A9,I2]|simp(disch:=first|omega|grind) only[B3]|(intro d;try simp only[A6]at d)|omega)
 refine B37 l k (by omega) (fun r hr=>by rw[hw r hr];exact hk) _ fun ob M G=>?_;have o0:=O3.put (H:=H) (sz:=4) (es:=Rw C5 (V1 l k)) (ob:=ob) (fun e=>by rw[M e];rfl) G;have a0:(V1 l k).length=(A0Z l k 0 0).length:=by rw[A8F]
 rw[←A8F l k]at o0⊢;generalize putB H 4 (Rw C5 (A0Z l k 0 0)) ob=Hp at o0⊢;repeat' (first|simp only[go_sem,seval]|(intro d;try simp only[A6]at d)|with_reducible refine y9 1 (by omega) (by omega) _ ?_)
 rename_i b7;have a4:=d;clear d;refine C2 [1,2,8,10,26,27] (fun(p:Nat×Option Nat×Heap)=>[(28,.int .i64 p.1),(9,J8 4 (A0Z l k p.1 0).length p.2.1)]) (fun(p:Nat×Option Nat×Heap)=>p.2.2) (fun(p:Nat×Option Nat×Heap)=>p.1≤(J0 l k).length∧O3 H p.2.2 4 (Rw C5 (A0Z l k p.1 0)) [] [] p.2.1 none none) (fun(p:Nat×Option Nat×Heap)=>(J0 l k).length-p.1) ((0,ob,Hp)) (⟨D1u _,o0⟩) (by simp only[go_sem,seval]) (A2 (by assumption)) ?_;clear o0 a4 a0 M G;rintro Ec rfl ⟨i,o1,Hp⟩ ⟨hi,x⟩;simp only at hi x;by_cases y:i<(J0 l k).length
 ·have o:decide ((i:Int)<(J0 l k).length)=true:=D1b (by omega);have b8:(i:Int)<(J0 l k).length:=by omega
  have A:=wl _ (D1n y);have C:k<(J0 l k)[i].c.length:=by rw[hw _ A];exact hk
  have a5:(k:Int)<(J0 l k)[i].c.length:=by omega
  have gi:(J0 l k).getD i default=(J0 l k)[i]:=by simp[y]
  repeat' (first|with_reducible apply D1Z|simp only[go_sem,seval,o,A9 _ _ y,C0 _ _ y]|(intro d;try simp only[A6]at d)|omega)
  rename_i g;have O:=d;clear d;have g3:=x.grow O (.box (C5 (J0 l k)[i]));have J:(Hp.set g (.box (C5 (J0 l k)[i]))) g=some (.box (C5 (J0 l k)[i])):=A0 _ _;have hH:H.Le (H.set g (.box (C5 (J0 l k)[i]))):=A2 (x.le.none O);have J:(H.set g (.box (C5 (J0 l k)[i]))) g=some (.box (C5 (J0 l k)[i])):=A0 _ _;generalize Hp.set g (.box (C5 (J0 l k)[i]))=Hq at g3⊢;generalize H.set g (.box (C5 (J0 l k)[i]))=H1 at g3 J hH;refine C2 [1,2,8,10,12,26,27,28,32,33] (fun(p:Nat×Option Nat×Heap)=>[(34,.int .i64 p.1),(9,J8 4 (A0Z l k i p.1).length p.2.1)]) (fun(p:Nat×Option Nat×Heap)=>p.2.2) (fun(p:Nat×Option Nat×Heap)=>p.1≤(F9 l k).length∧O3 H1 p.2.2 4 (Rw C5 (A0Z l k i p.1)) [] [] p.2.1 none none) (fun(p:Nat×Option Nat×Heap)=>(F9 l k).length-p.1) ((0,o1,Hq)) (⟨D1u _,g3⟩) (by simp only[go_sem,seval]) (D20 _) ?_;clear g3 x;rintro Ec rfl ⟨j,o1,Hp⟩ ⟨hj,x⟩;simp only at hj x;have a6:=x.le _ _ J;by_cases z:j<(F9 l k).length
  ·have o:decide ((j:Int)<(F9 l k).length)=true:=D1b (by omega);have b9:(j:Int)<(F9 l k).length:=by omega
   have L:=wh _ (D1n z);have u:k<(F9 l k)[j].c.length:=by rw[hw _ L];exact hk
   have T:(k:Int)<(F9 l k)[j].c.length:=by omega
   repeat' (first|with_reducible apply D1Z|simp only[go_sem,seval,o,A9 _ _ z,C0 _ _ z]|(intro d;try simp only[A6]at d)|omega)
   rename_i m;have U:=d;clear d;have V:(Hp.set m (.box (C5 (F9 l k)[j]))) m=some (.box (C5 (F9 l k)[j])):=A0 _ _;have W:(Hp.set m (.box (C5 (F9 l k)[j]))) g=some (.box (C5 (J0 l k)[i])):=(A2 U) _ _ a6;have I:Hp.Le (Hp.set m (.box (C5 (F9 l k)[j]))):=A2 U;generalize Hp.set m (.box (C5 (F9 l k)[j]))=Hr at V W I⊢;have a9:g∈[g,m]:=by simp
   have b0:m∈[g,m]:=by simp
   have X:=hr _ A;have Y:=hr _ L;have x1:=X.2 _ (D1n C);have x2:=Y.2 _ (D1n u);obtain⟨p,hp⟩: ∃p,p=(J0 l k)[i].c[k]:=⟨_,rfl⟩
   obtain⟨q,hq⟩: ∃q,q= -(F9 l k)[j].c[k]:=⟨_,rfl⟩
   have es:A1g ((J0 l k).getD i default) (F9 l k)[j] k false=A2J (J0 l k)[i] q (F9 l k)[j] p:=by
    unfold A1g;simp only[gi,I2 _ _ C,I2 _ _ u,←hp,←hq];rfl
   have lz:=B7c l k i j hlen (by omega);have b1:Rw C5 (A0Z l k i (j+1))=Rw C5 (A0Z l k i j)++[C5 (A2J (J0 l k)[i] q (F9 l k)[j] p)]:=by rw[A8H l k i j z,es,←P1];rfl
   have fl:(A0Z l k i (j+1)).length=(A0Z l k i j).length+1:=by rw[A8H l k i j z];simp
   refine F7 (fun i'=>if i'=10 then .agg (C4 q)else .undef) [g,m] ?_;repeat' (first|with_reducible apply D1Z|simp only[go_sem,seval,a9,b0,W,V,a5,T,A9 _ _ C,C0 _ _ C,A9 _ _ u,C0 _ _ u,←hp]|simp(disch:=first|omega|grind) only[B3]|(intro d;try simp only[A6]at d)|with_reducible refine S6 (fun H' Q hro b2=>A4x (F9 l k)[j].c[k] H' (by rw[←hq];exact b2)) ?_|with_reducible refine B7K (J0 l k)[i] (F9 l k)[j] q p (by rw[hw _ A,hw _ L]) (by rw[hw _ A];exact hn) X Y (by omega) (by omega) _ ?_|omega)
   rename_i c0 c1 c2 c3 c4 c5 bx;have b3:=d;clear d;refine O3.ap x (e1':=Rw C5 (A0Z l k i (j+1))) (I.trans (by simp only[D7,C9,D0]at* <;>grind)) (by simp only[A6];simp only[b3,ne_eq,not_false_eq_true,and_self]) (by simp) (by rw[D6]) (by simp only[D1e,D1g];omega) (by simp only[D1e,D1g];omega) b1 fun b' H' h4=>?_;repeat' (first|simp only[go_sem,seval]|simp(disch:=omega) only[A4,A9,I2])
   refine C1 (j+1,some b',H') ⟨by simp only[];omega,h4⟩ (by simp only[];omega) (by(try simp only[go_sem,seval,K6,fl])<;>(try simp(disch:=omega) [A4])) (D20 _)
  ·have o:decide ((j:Int)<(F9 l k).length)=false:=D1c (by omega);have b4:j=(F9 l k).length:=by omega
   subst b4;rw[A8G l k i y]at x;repeat' (first|simp only[go_sem,seval,o,A8G l k i y]|simp(disch:=omega) only[A4,A9,I2])
   refine C1 (i+1,o1,Hp) ⟨by simp only[];omega,x.less hH⟩ (by simp only[];omega) (by(try simp only[go_sem,seval])<;>(try simp(disch:=omega) [A4])) (D20 _)
 ·have o:decide ((i:Int)<(J0 l k).length)=false:=D1c (by omega);have b6:i=(J0 l k).length:=by omega
  subst b6;rw[B1P]at x;repeat' simp only[go_sem,seval,o,B1P]
  exact Fin.out (by rw[D6]) x.a1 (D21 (O3.one x) h)
end Go.Proofs.YtibphjonmikciaaGreatDoor
namespace Go.Proofs.YtibphjonmikciaaGreatDoor
section
open Go Go.Shelf Go.RowKit
set_option maxHeartbeats 4000000 in
set_option maxRecDepth 100000 in
theorem C0V(n:Nat)(hn:0<n)(hb:n*64≤140737488355328)(w:World):
  Calls Tryz.prog 282 #[.slice none 0 0,.int .i64 n] w fun e w'=>∃(cs:Array Value) (G:Nat),e= .returned (.slice (some ⟨w.heap.size,0,none⟩) 0 G)∧w'=w.drew.alloc (.cells cs 246)∧cs.size=G*4∧n≤G:=by
 obtain⟨i,m,y,hs,o⟩: ∃i,Tryz.prog.info? 246=some i∧i.zero=some (Value.agg #[.slice none 0 0,.bool false,.slice none 0 0,.bool false])∧i.size=4∧i.bytes=64:=by
  have h:(Tryz.prog.info? 246).map (fun i=>(i.zero,i.size,i.bytes))=some (some (Value.agg #[.slice none 0 0,.bool false,.slice none 0 0,.bool false]),4,64):=by kernel_rfl
  obtain⟨i,m,e⟩:=D1i.1 h;simp only[Prod.mk.injEq]at e;exact⟨i,m,e.1,e.2.1,e.2.2⟩
 have p:Tryz.prog.follows .mixedOrders=true:=by kernel_rfl
 have r:=Tryz.underlying216;have a1:=Tryz.isAgg216;have C:=Tryz.sizeOf216;have v1:=Tryz.zeroValue216;have I:=run_underlying r;have u:=Tryz.underlying3;have a3:=Tryz.isAgg3;have J:=Tryz.sizeOf3;have v3:=Tryz.zeroValue3;have L:=run_underlying u;have z:=Tryz.underlying4;have M:=Tryz.isAgg4;have O:=Tryz.sizeOf4;have v4:=Tryz.zeroValue4;have T:=run_underlying z;have A:=Tryz.underlying246;have U:=Tryz.isAgg246;have V:=Tryz.sizeOf246;have W:=Tryz.zeroValue246;have X:=run_underlying A;have h1: ¬((n:Int)<0):=by omega
 have Y:RowKit.wrap64 ((n:Int)-0)=(n:Int):=by unfold RowKit.wrap64;omega
 have h4:(n:Int) > 0:=by omega
 have d:=Lib.run_append_nil_zeros w 216 3 216 246 i _ .i64 .i64 r u m y n hn (by omega) (by omega) (by rw[o];omega);obtain⟨G,q⟩: ∃G,G=grownCap w n 0 246:=⟨_,rfl⟩
 have j:n≤grownCap w n 0 246:=grownCap_ge w _ _ _;have x:G≤9223372036854775807:=by
  have:=grownCap_le_maxLen w n 0 246 (by unfold maxLen;omega);rw[←q]at this;unfold maxLen at this;omega
 rw[←q]at d j;obtain⟨cs,g⟩: ∃cs,cs=Builtin.zeroCells (Value.agg #[.slice none 0 0,.bool false,.slice none 0 0,.bool false]).cells n++Builtin.zeroCells (Value.agg #[.slice none 0 0,.bool false,.slice none 0 0,.bool false]).cells (G-n):=⟨_,rfl⟩
 have hsz:cs.size=G*4:=by
  rw[g,Array.size_append,size_zeroCells,size_zeroCells];show n*4+(G-n)*4=G*4;omega
 rw[←g]at d;clear q g
 go_enter Tryz.func282,Tryz.ntmps282
 go_wp2_with (at_builtin;refine Lib.wpList_append_run _ rfl _ _ _ _ rfl _ _ rfl rfl _ _ d ?_)
 all_goals (go_ret;exact⟨cs,G,rfl,rfl,by first|exact hsz|simpa using hsz,j⟩)
end
section
open Go Go.Av Go.Lin
theorem B7e{Q}(H:Heap)(d:Q .nilsl H):D8 282 [.nilsl,.int .i64 0] H Q:=by
 refine A8 [] A5 Tryz.func282 rfl ?_;simp only[go_sem,seval,Tryz.results282];repeat' (first|with_reducible apply D1Z|simp only[go_sem,seval]|simp(disch:=omega) only[A4])
 all_goals exact D22 d
theorem B4A{Q}(n:Nat)(hb:n*64≤140737488355328)(H:Heap)(o:n=0→Q .nilsl H)(h:n≠0→∀b,H b=none→Q (.vec b 4 0 0) (H.set b (.vec 4 []))):D8 282 [.nilsl,.int .i64 n] H Q:=by
 by_cases hn:n=0
 ·subst hn;exact B7e H (o rfl)
 ·refine⟨by kernel_rfl,fun w vs hl hr hs=>?_⟩;obtain⟨a,b,rfl,p,g⟩:=m0 hl hr;have q:a= .slice none 0 0:=by cases p;rfl
  rw[q,g.int_inv];refine(C0V n (by omega) hb w).mono ?_;rintro e w' ⟨cs,G,rfl,rfl,hsz,r⟩;have m:=hs.same (w':=w.drew) rfl (Ext.drewN H w 1);obtain⟨d,H',u,x,y,z,A⟩:=A0I (w:=w.drew) (K:=Q) m (sz:=4) (es:=[]) (vs:=cs) 246 0 G (by omega) ⟨by simp,fun i e he=>by simp at he,fun i e j d he=>by simp at he,fun i e j d he=>by simp at he⟩ (D1u _) hsz (fun b hb=>h hn b hb);exact⟨_,rfl,d,H',u,x,(Ext.drewN H w 1).trans (D24 _ _) y,z,A⟩
theorem A8I{Q}(l m:List Row)(hb:(l.length+m.length)*64≤140737488355328)(H:Heap)(h:Q (.sl 4 (Rw C5 (l++m))) H):D8 251 [.sl 1 [[.sl 4 (Rw C5 l)],[.sl 4 (Rw C5 m)]]] H Q:=by
 refine A8 [] A5 Tryz.func251 rfl ?_;simp only[go_sem,seval,Tryz.results251];refine C2 [0,9,10] (fun(p:Nat×Int)=>[(11,.int .i64 p.1),(3,.int .i64 p.2)]) (fun(p:Nat×Int)=>H) (fun(p:Nat×Int)=>p.1≤2∧(p.1=0→p.2=0)∧(p.1=1→p.2=l.length)∧(p.1=2→p.2=(l.length:Int)+m.length)) (fun(p:Nat×Int)=>2-p.1) ((0,0)) (⟨by simp,by simp,by simp,by simp⟩) (by simp only[go_sem,seval]) (D20 _) ?_;rintro y rfl ⟨k,z⟩ ⟨j,d,g,i⟩;simp only at j d g i
 match k,j,d,g,i with
 |0,j,d,g,i=>
  have o:=d rfl;subst o;repeat' (first|with_reducible apply D1Z|simp only[go_sem,seval,D18]|simp(disch:=omega) only[A4]|intro q|omega)
  exact C1 (1,(l.length:Int)) ⟨by simp,by simp,by simp,by simp⟩ (by simp) (by(try simp only[go_sem,seval])<;>(try simp(disch:=omega) [A4])) (D20 _)
 |1,j,d,g,i=>
  have o:=g rfl;subst o;repeat' (first|with_reducible apply D1Z|simp only[go_sem,seval,D18,D19]|simp(disch:=omega) only[A4]|intro q|omega)
  exact C1 (2,(l.length:Int)+m.length) ⟨by simp,by simp,by simp,by simp⟩ (by simp) (by simp only[go_sem,seval]) (D20 _)
 |2,j,d,g,i=>
  have o:=i rfl;subst o;have A:(l.length:Int)+m.length=((l.length+m.length:Nat):Int):=by omega
  by_cases r:l.length+m.length=0
  ·have el:l= []:=D1x (by omega);have C:m= []:=D1x (by omega);subst el;subst C;repeat' simp only[go_sem,seval,A]
   refine B4A 0 (by omega) H (fun _=>?_) (fun e=>absurd rfl e);repeat' simp only[go_sem,seval]
   refine C2 [25,26] (fun(k:Nat)=>[(27,.int .i64 k),(6,.nilsl)]) (fun(k:Nat)=>H) (fun(k:Nat)=>k≤2) (fun(k:Nat)=>2-k) (0) (by omega) (by simp only[go_sem,seval]) (D20 _) ?_;rintro y rfl k hk
   match k,hk with
   |0,_=>
    repeat' (first|simp only[go_sem,seval,D18,A0u]|simp(disch:=omega) only[A4])
    exact C1 1 (by omega) (by omega) (by simp only[go_sem,seval]) (D20 _)
   |1,_=>
    repeat' (first|simp only[go_sem,seval,D18,D19,A0u]|simp(disch:=omega) only[A4])
    exact C1 2 (by omega) (by omega) (by simp only[go_sem,seval]) (D20 _)
   |2,_=>
    repeat' simp only[go_sem,seval]
    exact Fin.out (n:=0) (ob:=none) rfl rfl (D21 (D20 _) h)
   |k+3,hk=>omega
  repeat' simp only[go_sem,seval,A]
  refine B4A _ hb H (fun e=>absurd e r) fun _ b u=>?_;repeat' simp only[go_sem,seval]
  refine C2 [25,26] (fun(p:Nat×Nat×List Row)=>[(27,.int .i64 p.1),(6,.vec p.2.1 4 0 p.2.2.length)]) (fun(p:Nat×Nat×List Row)=>H.set p.2.1 (.vec 4 (Rw C5 p.2.2))) (fun(p:Nat×Nat×List Row)=>p.1≤2∧H p.2.1=none∧(p.1=0→p.2.2= [])∧(p.1=1→p.2.2=l)∧(p.1=2→p.2.2=l++m)) (fun(p:Nat×Nat×List Row)=>2-p.1) ((0,b,[])) (⟨by simp,u,by simp,by simp,by simp⟩) (by simp only[go_sem,seval]) (D20 _) ?_;rintro y rfl ⟨k,c,X⟩ ⟨j,hc,d,g,i⟩;simp only at j hc d g i
  match k,j,d,g,i with
  |0,j,d,g,i=>
   have o:=d rfl;subst o;repeat' (first|with_reducible apply D1Z|simp only[go_sem,seval,D18,E6 hc]|simp(disch:=omega) only[A4]|intro q|omega)
   rename_i x;exact C1 (1,x,l) ⟨by simp,q,by simp,by simp,by simp⟩ (by simp) (by simp only[go_sem,seval]) (D20 _)
  |1,j,d,g,i=>
   have o:=(g rfl).symm;subst o;repeat' (first|with_reducible apply D1Z|simp only[go_sem,seval,D18,D19,E6 hc]|simp(disch:=omega) only[A4]|intro q|omega)
   rename_i x;exact C1 (2,x,l++m) ⟨by simp,q,by simp,by simp,by simp⟩ (by simp) (by simp only[go_sem,seval,D1f]) (by simp only[];rw[←P1,D1o (by rw[D6];exact D1t _)];exact D20 _)
  |2,j,d,g,i=>
   have o:=i rfl;subst o;repeat' simp only[go_sem,seval]
   exact Fin.out (ob:=some c) (by rw[D6,D1f]) (A0 _ _) (D21 (by show H.Le ((H.set c _).del c);rw[E6 hc];exact D20 _) h)
end
section
open Go Go.Shelf Go.RowKit
set_option maxHeartbeats 4000000 in
set_option maxRecDepth 100000 in
theorem C0W(n:Nat)(hn:0<n)(hb:n*40≤140737488355328)(w:World):
  Calls Tryz.prog 189 #[.slice none 0 0,.int .i64 n] w fun e w'=>∃(cs:Array Value) (G:Nat),e= .returned (.slice (some ⟨w.heap.size,0,none⟩) 0 G)∧w'=w.drew.alloc (.cells cs 25)∧cs.size=G*3∧n≤G:=by
 obtain⟨i,m,y,hs,o⟩: ∃i,Tryz.prog.info? 25=some i∧i.zero=some (Value.agg #[.slice none 0 0,.int .i64 0,.bool false])∧i.size=3∧i.bytes=40:=by
  have h:(Tryz.prog.info? 25).map (fun i=>(i.zero,i.size,i.bytes))=some (some (Value.agg #[.slice none 0 0,.int .i64 0,.bool false]),3,40):=by kernel_rfl
  obtain⟨i,m,e⟩:=D1i.1 h;simp only[Prod.mk.injEq]at e;exact⟨i,m,e.1,e.2.1,e.2.2⟩
 have p:Tryz.prog.follows .mixedOrders=true:=by kernel_rfl
 have r:=Tryz.underlying110;have a1:=Tryz.isAgg110;have C:=Tryz.sizeOf110;have v1:=Tryz.zeroValue110;have I:=run_underlying r;have u:=Tryz.underlying3;have a3:=Tryz.isAgg3;have J:=Tryz.sizeOf3;have v3:=Tryz.zeroValue3;have L:=run_underlying u;have z:=Tryz.underlying4;have M:=Tryz.isAgg4;have O:=Tryz.sizeOf4;have v4:=Tryz.zeroValue4;have T:=run_underlying z;have A:=Tryz.underlying25;have U:=Tryz.isAgg25;have V:=Tryz.sizeOf25;have W:=Tryz.zeroValue25;have X:=run_underlying A;have h1: ¬((n:Int)<0):=by omega
 have Y:RowKit.wrap64 ((n:Int)-0)=(n:Int):=by unfold RowKit.wrap64;omega
 have h4:(n:Int) > 0:=by omega
 have d:=Lib.run_append_nil_zeros w 110 3 110 25 i _ .i64 .i64 r u m y n hn (by omega) (by omega) (by rw[o];omega);obtain⟨G,q⟩: ∃G,G=grownCap w n 0 25:=⟨_,rfl⟩
 have j:n≤grownCap w n 0 25:=grownCap_ge w _ _ _;have x:G≤9223372036854775807:=by
  have:=grownCap_le_maxLen w n 0 25 (by unfold maxLen;omega);rw[←q]at this;unfold maxLen at this;omega
 rw[←q]at d j;obtain⟨cs,g⟩: ∃cs,cs=Builtin.zeroCells (Value.agg #[.slice none 0 0,.int .i64 0,.bool false]).cells n++Builtin.zeroCells (Value.agg #[.slice none 0 0,.int .i64 0,.bool false]).cells (G-n):=⟨_,rfl⟩
 have hsz:cs.size=G*3:=by
  rw[g,Array.size_append,size_zeroCells,size_zeroCells];show n*3+(G-n)*3=G*3;omega
 rw[←g]at d;clear q g
 go_enter Tryz.func189,Tryz.ntmps189
 go_wp2_with (at_builtin;refine Lib.wpList_append_run _ rfl _ _ _ _ rfl _ _ rfl rfl _ _ d ?_)
 all_goals (go_ret;exact⟨cs,G,rfl,rfl,by first|exact hsz|simpa using hsz,j⟩)
end
section
open Go Go.Av Go.Lin
theorem B7f{Q}(H:Heap)(d:Q .nilsl H):D8 189 [.nilsl,.int .i64 0] H Q:=by
 refine A8 [] A5 Tryz.func189 rfl ?_;simp only[go_sem,seval,Tryz.results189];repeat' (first|with_reducible apply D1Z|simp only[go_sem,seval]|simp(disch:=omega) only[A4])
 all_goals exact D22 d
theorem B4B{Q}(n:Nat)(hb:n*40≤140737488355328)(H:Heap)(o:n=0→Q .nilsl H)(h:n≠0→∀b,H b=none→Q (.vec b 3 0 0) (H.set b (.vec 3 []))):D8 189 [.nilsl,.int .i64 n] H Q:=by
 by_cases hn:n=0
 ·subst hn;exact B7f H (o rfl)
 ·refine⟨by kernel_rfl,fun w vs hl hr hs=>?_⟩;obtain⟨a,b,rfl,p,g⟩:=m0 hl hr;have q:a= .slice none 0 0:=by cases p;rfl
  rw[q,g.int_inv];refine(C0W n (by omega) hb w).mono ?_;rintro e w' ⟨cs,G,rfl,rfl,hsz,r⟩;have m:=hs.same (w':=w.drew) rfl (Ext.drewN H w 1);obtain⟨d,H',u,x,y,z,A⟩:=A0I (w:=w.drew) (K:=Q) m (sz:=3) (es:=[]) (vs:=cs) 25 0 G (by omega) ⟨by simp,fun i e he=>by simp at he,fun i e j d he=>by simp at he,fun i e j d he=>by simp at he⟩ (D1u _) hsz (fun b hb=>h hn b hb);exact⟨_,rfl,d,H',u,x,(Ext.drewN H w 1).trans (D24 _ _) y,z,A⟩
theorem A8J{Q}(l m:List LinV)(hb:(l.length+m.length)*40≤140737488355328)(H:Heap)(h:Q (.sl 3 (Rw E4 (l++m))) H):D8 152 [.sl 1 [[.sl 3 (Rw E4 l)],[.sl 3 (Rw E4 m)]]] H Q:=by
 refine A8 [] A5 Tryz.func152 rfl ?_;simp only[go_sem,seval,Tryz.results152];refine C2 [0,9,10] (fun(p:Nat×Int)=>[(11,.int .i64 p.1),(3,.int .i64 p.2)]) (fun(p:Nat×Int)=>H) (fun(p:Nat×Int)=>p.1≤2∧(p.1=0→p.2=0)∧(p.1=1→p.2=l.length)∧(p.1=2→p.2=(l.length:Int)+m.length)) (fun(p:Nat×Int)=>2-p.1) ((0,0)) (⟨by simp,by simp,by simp,by simp⟩) (by simp only[go_sem,seval]) (D20 _) ?_;rintro y rfl ⟨k,z⟩ ⟨j,d,g,i⟩;simp only at j d g i
 match k,j,d,g,i with
 |0,j,d,g,i=>
  have o:=d rfl;subst o;repeat' (first|with_reducible apply D1Z|simp only[go_sem,seval,D18]|simp(disch:=omega) only[A4]|intro q|omega)
  exact C1 (1,(l.length:Int)) ⟨by simp,by simp,by simp,by simp⟩ (by simp) (by(try simp only[go_sem,seval])<;>(try simp(disch:=omega) [A4])) (D20 _)
 |1,j,d,g,i=>
  have o:=g rfl;subst o;repeat' (first|with_reducible apply D1Z|simp only[go_sem,seval,D18,D19]|simp(disch:=omega) only[A4]|intro q|omega)
  exact C1 (2,(l.length:Int)+m.length) ⟨by simp,by simp,by simp,by simp⟩ (by simp) (by simp only[go_sem,seval]) (D20 _)
 |2,j,d,g,i=>
  have o:=i rfl;subst o;have A:(l.length:Int)+m.length=((l.length+m.length:Nat):Int):=by omega
  by_cases r:l.length+m.length=0
  ·have el:l= []:=D1x (by omega);have C:m= []:=D1x (by omega);subst el;subst C;repeat' simp only[go_sem,seval,A]
   refine B4B 0 (by omega) H (fun _=>?_) (fun e=>absurd rfl e);repeat' simp only[go_sem,seval]
   refine C2 [25,26] (fun(k:Nat)=>[(27,.int .i64 k),(6,.nilsl)]) (fun(k:Nat)=>H) (fun(k:Nat)=>k≤2) (fun(k:Nat)=>2-k) (0) (by omega) (by simp only[go_sem,seval]) (D20 _) ?_;rintro y rfl k hk
   match k,hk with
   |0,_=>
    repeat' (first|simp only[go_sem,seval,D18,A0u]|simp(disch:=omega) only[A4])
    exact C1 1 (by omega) (by omega) (by simp only[go_sem,seval]) (D20 _)
   |1,_=>
    repeat' (first|simp only[go_sem,seval,D18,D19,A0u]|simp(disch:=omega) only[A4])
    exact C1 2 (by omega) (by omega) (by simp only[go_sem,seval]) (D20 _)
   |2,_=>
    repeat' simp only[go_sem,seval]
    exact Fin.out (n:=0) (ob:=none) rfl rfl (D21 (D20 _) h)
   |k+3,hk=>omega
  repeat' simp only[go_sem,seval,A]
  refine B4B _ hb H (fun e=>absurd e r) fun _ b u=>?_;repeat' simp only[go_sem,seval]
  refine C2 [25,26] (fun(p:Nat×Nat×List LinV)=>[(27,.int .i64 p.1),(6,.vec p.2.1 3 0 p.2.2.length)]) (fun(p:Nat×Nat×List LinV)=>H.set p.2.1 (.vec 3 (Rw E4 p.2.2))) (fun(p:Nat×Nat×List LinV)=>p.1≤2∧H p.2.1=none∧(p.1=0→p.2.2= [])∧(p.1=1→p.2.2=l)∧(p.1=2→p.2.2=l++m)) (fun(p:Nat×Nat×List LinV)=>2-p.1) ((0,b,[])) (⟨by simp,u,by simp,by simp,by simp⟩) (by simp only[go_sem,seval]) (D20 _) ?_;rintro y rfl ⟨k,c,X⟩ ⟨j,hc,d,g,i⟩;simp only at j hc d g i
  match k,j,d,g,i with
  |0,j,d,g,i=>
   have o:=d rfl;subst o;repeat' (first|with_reducible apply D1Z|simp only[go_sem,seval,D18,E6 hc]|simp(disch:=omega) only[A4]|intro q|omega)
   rename_i x;exact C1 (1,x,l) ⟨by simp,q,by simp,by simp,by simp⟩ (by simp) (by simp only[go_sem,seval]) (D20 _)
  |1,j,d,g,i=>
   have o:=(g rfl).symm;subst o;repeat' (first|with_reducible apply D1Z|simp only[go_sem,seval,D18,D19,E6 hc]|simp(disch:=omega) only[A4]|intro q|omega)
   rename_i x;exact C1 (2,x,l++m) ⟨by simp,q,by simp,by simp,by simp⟩ (by simp) (by simp only[go_sem,seval,D1f]) (by simp only[];rw[←P1,D1o (by rw[D6];exact D1t _)];exact D20 _)
  |2,j,d,g,i=>
   have o:=i rfl;subst o;repeat' simp only[go_sem,seval]
   exact Fin.out (ob:=some c) (by rw[D6,D1f]) (A0 _ _) (D21 (by show H.Le ((H.set c _).del c);rw[E6 hc];exact D20 _) h)
end
section
open Go Go.Shelf Go.RowKit
end
section
open Go Go.Av Go.Lin
end
end Go.Proofs.YtibphjonmikciaaGreatDoor
namespace Go.Lin
open Go Go.Av
theorem A8K:C4 0= [.bool false,.sl 1 []]:=by
 unfold C4;rw[show (0:Int).natAbs=0 from rfl,K3];rfl
theorem B2v{es es':List (List D)}(hl:es.length=es'.length)(h: ∀(i:Nat) e e',es[i]? =some e→es'[i]? =some e'→e=e'∨(e=zB∧e'=C4 0)):NilR (.sl 2 es) (.sl 2 es'):=by
 refine .sl 2 es es' hl (fun i e e' h1 o=>?_) (fun i e e' j d d' h1 o m g=>?_)
 ·rcases h i e e' h1 o with rfl|⟨rfl,rfl⟩
  ·rfl
  ·rw[A8K];rfl
 ·rcases h i e e' h1 o with rfl|⟨rfl,rfl⟩
  ·rw[m]at g;cases g;exact .same _
  ·rw[A8K]at g
   match j with
   |0=>cases m;cases g;exact .same _
   |1=>cases m;cases g;exact .nil _
   |j+2=>cases m
theorem B5M(c:List Int):NilR (.sl 2 (Rw C4 c++[zB])) (.sl 2 (Rw C4 (c++[0]))):=by
 refine B2v (by simp[Rw]) fun i e e' h1 d=>?_;rw[←P1]at d;by_cases h:i<c.length
 ·rw[D2T (by rw[D6];exact h)]at h1 d;rw[h1]at d;cases d;exact .inl rfl
 ·rw[D2U (by rw[D6];omega),D6]at h1 d;by_cases g:i-c.length=0
  ·rw[g]at h1 d;cases h1;cases d;exact .inr ⟨rfl,rfl⟩
  ·obtain⟨q,hq⟩: ∃q,i-c.length=q+1:=⟨_,(Nat.succ_pred g).symm⟩
   rw[hq]at h1;cases h1
theorem B5N{a a':D}{ds:List D}(h:NilR a a'):NilR (.agg (a::ds)) (.agg (a'::ds)):=by
 refine .agg _ _ (by simp) fun i d d' h1 e=>?_
 match i with
 |0=>cases h1;cases e;exact h
 |i+1=>
  simp only[D15]at h1 e;rw[h1]at e;cases e;exact .same _
theorem A2Y{Q:D→Heap→Prop}{ds:List D}{H:Heap}{b sz n:Nat}{es:List (List D)}(hb:H b=some (.vec sz es))(hn:n=es.length)(h:Fin Q (.agg (.sl sz es::ds)) (H.del b)):Fin Q (.agg (.vec b sz 0 n::ds)) H:=by
 subst hn;refine V7 hb (by simp) (fun i d d' h1 e=>?_) h
 match i with
 |0=>cases h1;cases e;exact .all
 |i+1=>
  simp only[D15]at h1 e;rw[h1]at e;cases e;exact .same _
end Go.Lin
namespace Go.Proofs.YtibphjonmikciaaGreatDoor
open Go Go.Av Go.Lin
attribute [local irreducible] ACalls Q4
theorem B7g{Q}(c:List Int)(hc:c≠[])(hl:c.length≤1000000)(H:Heap)(h: ∀(ob:Option Nat) (b:Nat),ob=some b→H b=none→Q (J8 2 c.length ob) (H.set b (.vec 2 (Rw C4 c)))):D8 257 [.sl 2 (Rw C4 c)] H Q:=by
 refine A8 [] A5 Tryz.func257 rfl ?_;simp only[go_sem,seval,Tryz.results257];have i:Rw C4 c≠[]:=fun e=>hc (D1x (by rw[←D6 (f:=C4),e];rfl));have hq: ∀(x:Nat),L4 Tryz.prog .eql 240 (L3 (.tmp x)||L3 (.const (.slice none 0 0))) (.sl 2 (Rw C4 c)) .nilsl=some (.bool false):=fun x=>A6p i (by kernel_rfl);repeat' (first|with_reducible apply D1Z|simp only[go_sem,seval,hq]|intro d|omega)
 rename_i j o m;have g:=d;clear d;have hs:(H.set j (.vec 2 [])).del j=H:=E6 o;rw[hs]at g⊢;exact D22 (h (some m) m rfl g)
theorem C4K{Q}(r:Row)(hc:r.c≠[])(hl:r.c.length≤1000000)(H:Heap)(h:Q (.agg (C5 (A28 r))) H):D8 256 [.agg (C5 r)] H Q:=by
 refine A8 [] A5 Tryz.func256 rfl ?_;simp only[go_sem,seval,Tryz.results256];intro d h1 i q;simp only[A6]at q;have e1:((H.set d (.box (C5 r))).set i (.box [.nilsl,.bool false,.nilsl,.bool false])) d=some (.box (C5 r)):=by rw[A3 _ q.1.symm,A0]
 have e2:((H.set d (.box (C5 r))).set i (.box [.nilsl,.bool false,.nilsl,.bool false])) i=some (.box [.nilsl,.bool false,.nilsl,.bool false]):=A0 _ _;have u:H.Le ((H.set d (.box (C5 r))).set i (.box [.nilsl,.bool false,.nilsl,.bool false])):=(A2 h1).trans (A2 (by simp only[A6];exact q));have n1:d≠i:=q.1.symm;generalize (H.set d (.box (C5 r))).set i (.box [.nilsl,.bool false,.nilsl,.bool false])=Bs at e1 e2 u⊢;repeat' simp only[go_sem,seval,e1]
 refine B7g _ hc hl _ fun ob bv j z=>?_;have o3:=O3.put (H:=Bs) (sz:=2) (es:=Rw C4 r.c) (ob:=some bv) (by simp) (fun b e=>by cases e;exact z);rw[←j]at o3;have x:putB Bs 2 (Rw C4 r.c) ob=Bs.set bv (.vec 2 (Rw C4 r.c)):=by rw[j];rfl
 rw[x]at o3;generalize Bs.set bv (.vec 2 (Rw C4 r.c))=Hp at o3⊢;clear j x;repeat' (first|simp only[go_sem,seval]|(intro m;try simp only[A6]at m))
 rename_i bx;have y:=m;clear m;refine O3.ap o3 (e1':=Rw C4 r.c++[zB]) (D20 _) y (by simp) (by rw[D6]) (by simp only[D1e,D1g];omega) (by simp only[D1e,D1g];omega) rfl fun A H' p=>?_;clear o3 y;have J:=p.le _ _ e1;have L:=p.le _ _ e2;have C:A≠d:=fun g=>by have:=p.n1 _ rfl;rw[g,e1]at this;cases this
 have G:A≠i:=fun g=>by have:=p.n1 _ rfl;rw[g,e2]at this;cases this
 repeat' simp only[go_sem,seval,J,L,A3 _ n1,A3 _ n1.symm]
 refine A2Y (es:=Rw C4 r.c++[zB]) (by rw[A3 _ G,A3 _ C];exact p.a1) (by rw[D1f,D6];rfl) (D4 (B5N (B5M r.c)) (D21 (fun k o hk=>?_) h));have M:k≠d:=fun g=>by rw[g,h1]at hk;cases hk
 have O:k≠i:=fun g=>by rw[g,q.2]at hk;cases hk
 have I:=u _ _ hk;have T:k≠A:=fun g=>by have:=p.n1 _ rfl;rw[←g,I]at this;cases this
 rw[F1 T,A3 _ O,A3 _ M];exact p.le _ _ I
end Go.Proofs.YtibphjonmikciaaGreatDoor
namespace Go.Lin
open Go Go.Av Go.Lexs
structure ZR where
 es:List (List D)
 r:Row
def zrC(z:ZR):List D:=[.sl 2 z.es,.bool (decide (z.r.k<0)),.sl 1 (Rw F5 (B4 z.r.k.natAbs)),.bool z.r.eq]
def zOk(z:ZR):Prop:=NilR (.sl 2 z.es) (.sl 2 (Rw C4 z.r.c))
theorem B5O(l:List ZR)(h: ∀z∈l,zOk z):NilR (.sl 4 (Rw zrC l)) (.sl 4 (Rw C5 (l.map (·.r)))):=by
 have e:Rw C5 (l.map (·.r))=Rw (fun z:ZR=>C5 z.r) l:=by simp[Rw]
 rw[e];refine NilR.rw 4 l (fun z i=>rfl) fun z i j d d' h1 g=>?_
 match j with
 |0=>cases h1;cases g;exact h z i
 |1=>cases h1;cases g;exact .same _
 |2=>cases h1;cases g;exact .same _
 |3=>cases h1;cases g;exact .same _
 |j+4=>cases h1
def s9(names:List ByteArray)(ts:List LTm):List (List D):=names.map fun s=>match ts.find? (fun t=>decide (t.v=s))with|some t=>C4 t.c|none=>zB
theorem B5P(d:List ByteArray):s9 d []=List.replicate d.length zB:=by
 unfold s9;simp only[List.find?_nil];rw[List.map_const']
theorem B1Q(d:List ByteArray)(e:List LTm):(s9 d e).length=d.length:=by simp[s9]
theorem B7h(d:List ByteArray)(e:List LTm)(i:Nat)(g:i<d.length)(hn: ∀t∈e,t.v≠d[i]):(s9 d e)[i]? =some zB∧(s9 d e).getD i []=zB:=by
 have h:e.find? (fun t=>decide (t.v=d[i]))=none:=by
  rw[List.find?_eq_none];intro t j;simp[hn t j]
 have:(s9 d e)[i]? =some zB:=by
  unfold s9;rw[D1w,D1q g,Option.map_some,h]
 exact⟨this,by rw[List.getD_eq_getElem?_getD,this];rfl⟩
theorem B7i(d:List ByteArray)(h:List LTm)(t:LTm)(i:Nat)(p:i<d.length)(he:d[i]=t.v)(m:d.Nodup)(hn: ∀x∈h,x.v≠t.v):(s9 d h).set i (C4 t.c)=s9 d (h++[t]):=by
 apply D2u
 ·simp[s9]
 ·intro j h1 y;have r:j<d.length:=by simpa [s9]using y
  by_cases e:i=j
  ·subst e;rw[List.getElem_set_self];have u:h.find? (fun x=>decide (x.v=d[i]))=none:=by
    rw[List.find?_eq_none];intro x hx;simp[he,hn x hx]
   simp only[s9,D2P,List.find?_append,u];simp[he]
  ·rw[List.getElem_set_ne e];have o:t.v≠d[j]:=fun g=>by
    rw[←he]at g;have hp:=List.pairwise_iff_getElem.1 m;rcases Nat.lt_or_gt_of_ne e with q|q
    ·exact hp i j p r q g
    ·exact hp j i r p q g.symm
   simp only[s9,D2P,List.find?_append];cases u:h.find? (fun x=>decide (x.v=d[j]))with
   |some x=>simp
   |none=>simp[o]
theorem B5Q(l:List LTm)(s:ByteArray):B07 l s=match l.find? (fun t=>decide (t.v=s))with|some t=>t.c|none=>0:=by
 induction l with
 |nil=>rfl
 |cons t l d=>
  rw[B07,List.find?_cons];by_cases h:t.v=s
  ·simp[h]
  ·simp[h,d]
theorem B7j(d:List ByteArray)(h:List LTm):NilR (.sl 2 (s9 d h)) (.sl 2 (Rw C4 (d.map (B07 h)))):=by
 refine B2v (by simp[s9,Rw]) fun i e e' h1 j=>?_;simp only[s9,Rw,D1w,D1i]at h1 j;obtain⟨s,hs,rfl⟩:=h1;obtain⟨x,⟨m,g,rfl⟩,rfl⟩:=j;rw[hs]at g;cases g;rw[B5Q];cases h.find? (fun t=>decide (t.v=s))with
 |some t=>exact .inl rfl
 |none=>exact .inr ⟨rfl,rfl⟩
theorem B1R(n i:Nat)(s:Int)(m:i<n):NilR (.sl 2 ((List.replicate n zB).set i (C4 s))) (.sl 2 (Rw C4 (A79 n i s))):=by
 refine B2v (by simp[Rw,A79]) fun j e e' h1 d=>?_;have h:j<n:=by have:=(D1j.1 h1).1;simpa using this
 simp only[Rw,A79,D1w,D1i]at d;obtain⟨x,⟨k,hk,rfl⟩,rfl⟩:=d;rw[List.getElem?_range h]at hk;cases hk;by_cases g:i=j
 ·subst g;rw[List.getElem?_set_self (by simpa using m)]at h1;cases h1;rw[if_pos rfl];exact .inl rfl
 ·rw[List.getElem?_set_ne g]at h1;simp[h]at h1;rw[if_neg (fun q=>g q.symm)];exact .inr ⟨h1.symm,rfl⟩
end Go.Lin
namespace Go.Lin
open Go Go.Av Go.Proofs.YtibphjonmikciaaGreatDoor
abbrev A42(n m:Nat)(r:Row):Prop:=r.c.length=n∧A5w r m
abbrev hit(r s:Row):Prop:=r.eq=false∧s.eq=false∧A4t r s 1=true
theorem A1I(r s:Row)(l:List Row):A33 r (s::l)=if hit r s then(if r.k<s.k then {s with k:=r.k}else s)::l else s::A33 r l:=rfl
theorem B1S(r:Row): ∀(l:List Row) (j:Nat) (d:j<l.length),(∀(k:Nat) (hk:k<l.length),k<j→¬hit r l[k])→hit r l[j]→A33 r l=if r.k<l[j].k then l.set j {l[j]with k:=r.k}else l
 | [],j,d,_,_=>by simp at d
 |s::l,0,d,_,h=>by
  simp only[D2s]at h⊢;rw[A1I,if_pos h];split<;>rfl
 |s::l,j+1,d,h1,h=>by
  have e:=h1 0 (by simp) (by omega);simp only[D2s]at e;simp only[List.getElem_cons_succ]at h⊢;rw[A1I,if_neg e,B1S r l j (by simpa using d) (fun k hk g=>by have:=h1 (k+1) (by simpa using hk) (by omega);simpa using this) h];split<;>rfl
theorem A8M(r:Row): ∀(l:List Row),(∀(k:Nat) (hk:k<l.length),¬hit r l[k])→A33 r l=l++[r]
 | [],_=>rfl
 |s::l,h1=>by
  have d:=h1 0 (by simp);simp only[D2s]at d;rw[A1I,if_neg d,A8M r l (fun k hk=>by have:=h1 (k+1) (by simpa using hk);simpa using this)];rfl
theorem B7k{n m:Nat}(r:Row)(hr:A42 n m r): ∀(l:List Row),(∀s∈l,A42 n m s)→∀s∈A33 r l,A42 n m s
 | [],_,s,hs=>by simp[A33]at hs;subst hs;exact hr
 |x::l,h,s,hs=>by
  have hx:=h x (D1k ..);rw[A1I]at hs;split at hs
  ·rcases D11.1 hs with rfl|hs
   ·split
    ·exact⟨hx.1,hr.2.1,hx.2.2⟩
    ·exact hx
   ·exact h s (D1r _ hs)
  ·rcases D11.1 hs with rfl|hs
   ·exact hx
   ·exact B7k r hr l (fun y d=>h y (D1r _ d)) s hs
theorem B1T(r:Row): ∀l,(A33 r l).length≤l.length+1
 | []=>by simp[A33]
 |x::l=>by rw[A1I];have:=B1T r l;split<;>simp<;>omega
theorem B1U(l:List Row)(i:Nat)(h:i<l.length):pairs1 (l.take (i+1))=A33 l[i] (pairs1 (l.take i)):=by
 unfold pairs1;rw[D1s h,D2R];rfl
theorem B1V{n m:Nat}: ∀(l d:List Row),(∀s∈l,A42 n m s)→(∀s∈d,A42 n m s)→∀s∈l.foldl (fun out r=>A33 r out) d,A42 n m s
 | [],_,_,h=>h
 |r::l,d,h1,e=>B1V l _ (fun s hs=>h1 s (D1r _ hs)) (B7k r (h1 r (D1k ..)) d e)
theorem A68: ∀(l d:List Row),(l.foldl (fun out r=>A33 r out) d).length≤d.length+l.length
 | [],_=>by simp
 |r::l,d=>by have:=A68 l (A33 r d);have:=B1T r d;simp only[List.foldl_cons,D1e];omega
theorem B5R(r s:Row)(l:List Row):A5v r (s::l)=if r.eq=true∨s.eq=true∨A4t r s (-1)=false then A5v r l
  else if r.k+s.k<0 then none else if r.k+s.k=0 then A5v {r with eq:=true} l else A5v r l:=rfl
theorem B1W(done:List Row)(r:Row)(l:List Row):A0W done (r::l)=match A5v r done with|none=>none|some r'=>A0W (done++[r']) l:=rfl
def B1X:Option (List Row)→D
 |none=>.tuple [.sl 4 [],.bool false]
 |some l=>.tuple [.sl 4 (Rw C5 l),.bool true]
end Go.Lin
namespace Go.Av
theorem O3.putle{H Hp:Heap}{sz:Nat}{e1 e2 e3:List (List D)}{o1 o2 o3:Option Nat}(h:O3 H Hp sz e1 e2 e3 o1 o2 o3):(putB H sz e1 o1).Le Hp:=by
 cases o1 with
 |none=>exact h.le
 |some b=>
  intro k o hk;have hk:(H.set b (.vec sz e1)) k=some o:=hk;by_cases e:k=b
  ·subst e;rw[A0]at hk;cases hk;exact h.a1
  ·rw[A3 _ e]at hk;exact h.le _ _ hk
theorem O3.base{H d Hp i:Heap}{sz:Nat}{e1 e2 e3:List (List D)}{o1 o2 o3:Option Nat}(h:O3 H Hp sz e1 e2 e3 o1 o2 o3)(h1:d.Le i)(j:Hp.Le i)(hn: ∀b,Hp b≠none→H b=none→d b=none):O3 d i sz e1 e2 e3 o1 o2 o3:=by
 have key: ∀{e:List (List D)} {o:Option Nat},OutAt Hp sz e o→(∀b,o=some b→H b=none)→∀b,o=some b→d b=none:=fun {e o} m p b g=>hn b (by rw[m.some_of g];simp) (p b g);exact⟨h1,h.a1.up j,h.a2.up j,h.a3.up j,key h.a1 h.n1,key h.a2 h.n2,key h.a3 h.n3,h.d12,h.d13,h.d23⟩
end Go.Av
namespace Go.Lin
open Go Go.Av Go.Proofs.YtibphjonmikciaaGreatDoor
def A3Y(c:List Int)(j:Nat):Nat:=gcdR (c.take j)
theorem A43(c:List Int):A3Y c 0=0:=rfl
theorem A8N(c:List Int)(j:Nat)(h:j<c.length):A3Y c (j+1)=Nat.gcd c[j].natAbs (A3Y c j):=by
 unfold A3Y gcdR;rw[D1s h,D2R];rfl
theorem A69(c:List Int):A3Y c c.length=gcdR c:=by unfold A3Y;rw[List.take_length]
theorem B4C(c:List Int)(m:Nat)(hm: ∀x∈c,x.natAbs≤m): ∀j,j≤c.length→A3Y c j≤m
 |0,_=>by rw[A43];omega
 |j+1,h=>by
  have d:=B4C c m hm j (by omega);rw[A8N c j (by omega)];by_cases e:A3Y c j=0
  ·rw[e,Nat.gcd_zero_right];exact hm _ (D1n _)
  ·exact D2f (Nat.gcd_le_right _ (by omega)) d
def gB(j:Nat)(g:Int):List D:=if j=0 then [.bool false,.nilsl]else C4 g
theorem A6A(j:Nat)(g:Int):gB (j+1) g=C4 g:=rfl
theorem C4L(c:List Int)(j:Nat):NilR (.agg (gB j (A3Y c j:Nat))) (.agg (C4 (A3Y c j:Nat))):=by
 cases j with
 |zero=>rw[A43];exact A9W
 |succ j=>exact .same _
def A1J(r:Row):Option (List Row):=
 let g:=gcdR r.c
 if g=0 then(if r.k<0∨(r.eq=true∧0<r.k)then none else some [])
 else if g=1 then some [r]
 else
  let k:=r.k.fdiv g
  if r.eq=true∧k*g-r.k≠0 then none
  else some [⟨r.c.map (Int.fdiv · g),k,r.eq⟩]
theorem B2w(r:Row)(l:List Row):Z1 (r::l)=(A1J r).bind fun x=>(Z1 l).map (x++ ·):=by
 rw[Z1];unfold A1J;simp only[];split
 ·split
  ·rfl
  ·simp
 ·split
  ·rfl
  ·split
   ·rfl
   ·rfl
theorem B5S{l:List Row}{i:Nat}{D:List Row}(h:i<l.length)(d:Z1 l=(Z1 (l.drop i)).map (D++ ·)):Z1 l=(A1J l[i]).bind fun x=>(Z1 (l.drop (i+1))).map ((D++x)++ ·):=by
 rw[d,D14 h,B2w];cases A1J l[i]with
 |none=>rfl
 |some x=>cases Z1 (l.drop (i+1))<;>simp
theorem A3Z(a:Int)(b:Nat)(hb:b≠0):(a.fdiv b).natAbs≤a.natAbs:=by
 rw[Int.fdiv_eq_ediv_of_nonneg _ (by omega)];by_cases h:0≤a
 ·have h1:=Int.ediv_nonneg h (show (0:Int)≤b by omega);have d:=Int.ediv_le_self (b:=(b:Int)) h;omega
 ·have h1:a / (b:Int)<0:=Int.ediv_neg_of_neg_of_pos (by omega) (by omega);have d:a≤a / (b:Int):=by
   have:=Int.ediv_mul_le a (show (b:Int)≠0 by omega);have e:=Int.mul_le_mul_of_nonpos_left (show a / (b:Int)≤0 by omega) (show (1:Int)≤b by omega);have g:=Int.lt_ediv_add_one_mul_self a (show (0:Int)<b by omega);refine Int.le_ediv_of_mul_le (by omega) ?_;have:=Int.mul_le_mul_of_nonpos_left (show a≤0 by omega) (show (1:Int)≤b by omega);omega
  omega
theorem B4D{n m:Nat}{r:Row}{x:List Row}(hr:A42 n m r)(h:A1J r=some x):(∀s∈x,A42 n m s)∧x.length≤1:=by
 unfold A1J at h;simp only[]at h;split at h
 ·split at h
  ·cases h
  ·cases h;simp
 ·rename_i d;split at h
  ·cases h;exact⟨fun s hs=>by simp at hs;subst hs;exact hr,by simp⟩
  ·split at h
   ·cases h
   ·cases h;refine⟨fun s hs=>?_,by simp⟩;simp at hs;subst hs;refine⟨by simp[hr.1],D2f (A3Z _ _ d) hr.2.1,fun y e=>?_⟩;simp only[D2X]at e;obtain⟨z,g,rfl⟩:=e;exact D2f (A3Z _ _ d) (hr.2.2 z g)
end Go.Lin
namespace Go.Lin
open Go Go.Av Go.Lexs
def zrV(names:List ByteArray)(a:LinV):ZR:=⟨s9 names a.t,C7s names a⟩
def zrB(n i:Nat)(s:Int):ZR:=⟨(List.replicate n zB).set i (C4 s),⟨A79 n i s,2147483647,false⟩⟩
def zrR(names:List ByteArray)(l:List LinV)(m:Nat):List ZR:=l.map (zrV names)++(List.range m).flatMap fun i=>[zrB names.length i 1,zrB names.length i (-1)]
theorem B7m(d:List ByteArray)(l:List LinV):(zrR d l d.length).map (·.r)=B09 l d:=by
 unfold zrR B09;rw[D2Z,List.map_map,List.map_flatMap];rfl
theorem C4M(d:List ByteArray)(l:List LinV)(m:Nat)(hm:m≤d.length): ∀z∈zrR d l m,zOk z:=fun z e=>by
 unfold zrR at e;rcases D1z.1 e with h|h
 ·obtain⟨a,_,rfl⟩:=D2X.1 h;exact B7j d a.t
 ·obtain⟨i,g,h⟩:=List.mem_flatMap.1 h;have j:=List.mem_range.1 g;rcases D11.1 h with rfl|h
  ·exact B1R _ _ _ (by omega)
  ·simp at h;rw[h];exact B1R _ _ _ (by omega)
def zrJ(names:List ByteArray)(l:List LinV)(i j:Nat):List ZR:=zrR names l i++([zrB names.length i 1,zrB names.length i (-1)].take j)
theorem B7n(d:List ByteArray)(l:List LinV)(i:Nat):zrJ d l i 0=zrR d l i:=by simp[zrJ]
theorem B4E(d:List ByteArray)(l:List LinV)(i:Nat):zrJ d l i 2=zrR d l (i+1):=by
 unfold zrJ zrR;rw[List.range_succ,List.flatMap_append];simp
theorem C0X(d:List ByteArray)(l:List LinV)(i:Nat):zrJ d l i 1=zrJ d l i 0++[zrB d.length i 1]:=by simp[zrJ]
theorem B7o(d:List ByteArray)(l:List LinV)(i:Nat):zrJ d l i 2=zrJ d l i 1++[zrB d.length i (-1)]:=by simp[zrJ]
theorem B7p(d:List ByteArray)(l:List LinV):zrR d l 0=l.map (zrV d):=by simp[zrR]
theorem B4F(d:List ByteArray)(l:List LinV)(i:Nat):(zrR d l i).length=l.length+2*i:=by
 unfold zrR;rw[D1f,D2I]
 congr 1
 induction i with
 |zero=>rfl
 |succ i e=>rw[List.range_succ,List.flatMap_append,D1f,e];simp;omega
theorem A6C(d:List ByteArray)(l:List LinV)(i j:Nat)(e:j≤2):(zrJ d l i j).length=l.length+2*i+j:=by
 unfold zrJ;rw[D1f,B4F,D2H];simp;omega
end Go.Lin
namespace Go.Proofs.YtibphjonmikciaaGreatDoor
open Go Go.Av Go.Lexs Go.Lin
attribute [local irreducible] ACalls Q4
theorem A9a{Q}(b:Nat)(es:List ByteArray)(hn:es.length≤1000000)(H:Heap)(hb:H b=some (.box [.sl 1 (Rw L7 es)]))(h: ∀v,H v=none→Q (.vec v 2 0 es.length) (H.set v (.vec 2 (List.replicate es.length zB)))):D8 227 [.box b 0] H Q:=by
 refine A8 [] A5 Tryz.func227 rfl ?_;simp only[go_sem,seval,Tryz.results227];repeat' (first|with_reducible apply D1Z|simp only[go_sem,seval,hb]|intro d|omega)
 rename_i v;exact D22 (h v d)
set_option maxHeartbeats 2000000 in
theorem C4N{Q}(l:List LinV)(d:List ByteArray)(hlen:l.length≤1000000)(hn:d.length≤1000000)(d4:d.Pairwise fun x y=>X2 x y=true)(hv: ∀a∈l,validL a=true)(hm: ∀a∈l,∀t∈a.t,t.v∈d)(H:Heap)(h:Q (.sl 4 (Rw C5 (B09 l d))) H):
  D8 197 [.sl 3 (Rw E4 l),.sl 1 (Rw L7 d)] H Q:=by
 refine A8 [(6,.par),(11,.par),(22,.par)] A5 Tryz.func197 rfl ?_;simp only[go_sem,seval,Tryz.results197];intro W e7;have e3:(H.set W (.box [.sl 1 (Rw L7 d)])) W=some (.box [.sl 1 (Rw L7 d)]):=A0 _ _;have b7:H.Le (H.set W (.box [.sl 1 (Rw L7 d)])):=A2 e7;generalize H.set W (.box [.sl 1 (Rw L7 d)])=Bs at e3 b7⊢;have e8:d.Nodup:=d4.imp fun {x y} g e=>by rw[e,y5]at g;cases g
 repeat' (first|with_reducible apply D1Z|simp only[go_sem,seval]|simp(disch:=omega) only[A4,A9]|simp(disch:=first|omega|grind) only[B3]|(intro m;try simp only[A6]at m)|omega)
 refine C2 [3,6,19,20] (fun(p:Nat×Option Nat)=>[(21,.int .i64 p.1),(5,J8 4 p.1 p.2)]) (fun(p:Nat×Option Nat)=>putB Bs 4 (Rw zrC ((l.take p.1).map (zrV d))) p.2) (fun(p:Nat×Option Nat)=>p.1≤l.length∧(p.2=none→p.1=0)∧(∀b,p.2=some b→Bs b=none)) (fun(p:Nat×Option Nat)=>l.length-p.1) ((0,none)) (⟨D1u _,by simp,by simp⟩) (by simp only[go_sem,seval]) (D20 _) ?_;rintro Ec rfl ⟨i,o1⟩ ⟨hi,ho,c0⟩;simp only at hi ho c0;have A:=O3.put (H:=Bs) (sz:=4) (es:=Rw zrC ((l.take i).map (zrV d))) (ob:=o1) (fun e=>by rw[ho e];rfl) c0;have fl:=A9Z (zrV d) l i hi;generalize putB Bs 4 (Rw zrC ((l.take i).map (zrV d))) o1=Hp at A⊢;by_cases a5:i<l.length
 ·have c1:decide ((i:Int)<l.length)=true:=D1b (by omega);have g6:(i:Int)<l.length:=by omega
  have d5:=hv _ (D1n a5);have d6:=hm _ (D1n a5);have fs:=A67 (zrV d) l i a5;obtain⟨a,d7⟩: ∃a,a=l[i]:=⟨_,rfl⟩
  rw[←d7]at d5 d6 fs;have ok:=K7 d5;repeat' (first|with_reducible apply D1Z|simp only[go_sem,seval,c1,A9 _ _ a5,C0 _ _ a5,←d7]|(intro m;try simp only[A6]at m)|omega)
  rename_i b8;have h8:=m;clear m;have c8:(Hp.set b8 (.box (E4 a))) b8=some (.box (E4 a)):=A0 _ _;have I:Hp.Le (Hp.set b8 (.box (E4 a))):=A2 h8;have c3:(Hp.set b8 (.box (E4 a))) W=some (.box [.sl 1 (Rw L7 d)]):=I _ _ (A.le _ _ e3);generalize Hp.set b8 (.box (E4 a))=B8 at c8 I c3⊢;have m3:W∈[W,b8]:=by simp
  have m8:b8∈[W,b8]:=by simp
  obtain⟨k,hk⟩: ∃k,k=a.k:=⟨_,rfl⟩
  have e9:=ok.k;rw[←hk]at e9;have f0:B8 b8=some (.box [.sl 2 (Rw P2 a.t),.int .i64 k,.bool a.e]):=by rw[hk];exact c8
  refine B3e (fun i'=>if i'=1 then .mk' (fun v=>.vec v 2 0 d.length) (.vec 2 (List.replicate d.length zB))else if i'=4 then .c (.agg (C4 k))else .c .undef) [W,b8] ?_;repeat' (first|with_reducible apply D1Z|simp only[go_sem,seval,f0,c3,m3,m8]|simp(disch:=first|omega|grind) only[B3]|(intro m;try simp only[A6]at m)|with_reducible refine C9x c3 m3 (by simp) rfl (fun H' Q hro hb hq=>A9a W d hn H' hb hq) ?_|with_reducible refine S6 (fun H' Q hro hq=>y9 k (by omega) (by omega) H' hq) ?_)
  rename_i bv hv b9;have h9:=m;clear m;have nb:b9≠bv:=h9.1;have k3:W≠bv∧W≠b9:=⟨(fun g=>by rw[g,hv]at c3;cases c3),(fun g=>by rw[g,h9.2]at c3;cases c3)⟩
  rw[show List.replicate d.length zB=s9 d (a.t.take 0)from(B5P d).symm];refine C2 [3,5,6,9,19,20,21,34,35] (fun(j:Nat)=>[(36,.int .i64 j)]) (fun(j:Nat)=>(B8.set bv (.vec 2 (s9 d (a.t.take j)))).set b9 (.box [.vec bv 2 0 d.length,.bool (decide (k<0)),.sl 1 (Rw F5 (B4 k.natAbs)),.bool a.e])) (fun(j:Nat)=>j≤a.t.length) (fun(j:Nat)=>a.t.length-j) (0) (D1u _) (by simp only[go_sem,seval]) (D20 _) ?_;rintro Ec rfl j hj;have g7:=ok.len;by_cases a6:j<a.t.length
  ·have G:decide ((j:Int)<a.t.length)=true:=D1b (by omega);have f4:(j:Int)<a.t.length:=by omega
   obtain⟨t,ht⟩: ∃t,t=a.t[j]:=⟨_,rfl⟩
   have tc:=(A2G ok.t a6).2.2.1;rw[←ht]at tc;obtain⟨x,hx,b4⟩:=List.getElem_of_mem (d6 _ (D1n a6));rw[←ht]at b4;have f5:(x:Int)<d.length:=by omega
   have d8: ∀y∈a.t.take j,y.v≠t.v:=fun y hy g=>by
    obtain⟨q,hq,rfl⟩:=List.getElem_of_mem hy;rw[D2H]at hq;have:=List.pairwise_iff_getElem.1 (B2j ok.t) q j (by omega) a6 (by omega);rw[List.getElem_take]at g;rw[←ht,g,y5]at this;cases this
   obtain⟨z,hz⟩: ∃z,z=t.c:=⟨_,rfl⟩
   have ts:a.t.take (j+1)=a.t.take j++[t]:=by rw[D1s a6,ht]
   have J:=B7i d (a.t.take j) t x hx b4 e8 d8;rw[←ts,←hz]at J;have d9:=B7h d (a.t.take j) x hx (fun y hy=>by rw[b4];exact d8 y hy);have f7:=B1Q d (a.t.take j);rw[←hz]at tc;have f8:t.c=z:=hz.symm;repeat' (first|with_reducible apply D1Z|simp only[go_sem,seval,G,f4,A9 _ _ a6,C0 _ _ a6,←ht,f8]|simp(disch:=first|omega|grind) only[B3]|(intro m;try simp only[A6]at m)|omega)
   rename_i a9;have b6:=m;clear m;have j1:=b6.1;have j2:=b6.2.1;have j3:W≠a9:=fun g=>by have:=b6.2.2;rw[←g,c3]at this;cases this
   have p9:b9∈[b9,a9]:=by simp
   have f9:a9∈[b9,a9]:=by simp
   repeat' (first|simp only[go_sem,seval,A3 _ j3,A3 _ k3.2,A3 _ k3.1,c3]|with_reducible refine B5L d d4 t.v x hx b4 (by omega) _ ?_)
   refine F7 (fun i'=>if i'=5 then .agg (C4 z)else .undef) [b9,a9] ?_;repeat' (first|with_reducible apply D1Z|simp only[go_sem,seval,p9,f9,f5,f7,d9.1,d9.2]|simp(disch:=omega) only[A4,A9]|simp(disch:=first|omega|grind) only[B3]|with_reducible refine S6 (fun H' Q hro hq=>y9 z (by omega) (by omega) H' hq) ?_|omega)
   have c2:(s9 d (a.t.take j)).set x ((zB.set 0 (D.bool (decide (z<0)))).set 1 (D.sl 1 (Rw F5 (B4 z.natAbs))))=s9 d (a.t.take (j+1)):=J;refine C1 (j+1) (by omega) (by omega) (by(try simp only[go_sem,seval])<;>(try simp(disch:=omega) [A4])) ?_;rw[←c2];intro q o hq;have g0:q≠a9:=fun g=>by rw[g,A3 _ j1,A3 _ j2,b6.2.2]at hq;cases hq
   by_cases g:q=bv
   ·subst g;rw[A3 _ nb.symm,A0]at hq;rw[A0];exact hq
   ·rw[A3 _ g,A3 _ g0];by_cases e0:q=b9
    ·subst e0;rw[A0]at hq⊢;exact hq
    ·rw[A3 _ e0,A3 _ g]at hq⊢;exact hq
  ·have G:decide ((j:Int)<a.t.length)=false:=D1c (by omega);have g2:j=a.t.length:=by omega
   subst g2;rw[List.take_length];repeat' (first|simp only[go_sem,seval,G]|(intro m;try simp only[A6]at m))
   rename_i bx;have L:=m;clear m;have g4:Bs bv=none:=(A.le.trans I).none hv;have q1:(Bs.set bv (.vec 2 (s9 d a.t))).Le ((B8.set bv (.vec 2 (s9 d a.t))).set b9 (.box [.vec bv 2 0 d.length,.bool (decide (k<0)),.sl 1 (Rw F5 (B4 k.natAbs)),.bool a.e])):=by
    intro q o hq;by_cases g:q=bv
    ·subst g;rw[A3 _ nb.symm,A0];rw[A0]at hq;exact hq
    ·rw[A3 _ g]at hq;have u:=I _ _ (A.le _ _ hq);have g9:q≠b9:=fun g=>by rw[g,h9.2]at u;cases u
     rw[A3 _ g9,A3 _ g];exact u
   have q2:Hp.Le ((B8.set bv (.vec 2 (s9 d a.t))).set b9 (.box [.vec bv 2 0 d.length,.bool (decide (k<0)),.sl 1 (Rw F5 (B4 k.natAbs)),.bool a.e])):=by
    intro q o hq;have u:=I _ _ hq;have g:q≠bv:=fun g=>by rw[g,hv]at u;cases u
    have g9:q≠b9:=fun g=>by rw[g,h9.2]at u;cases u
    rw[A3 _ g9,A3 _ g];exact u
   have O:=A.base q1 q2 (fun b b0 b1=>by rw[A3 _ (fun g=>b0 (by rw[g];exact I.none hv))];exact b1);refine O3.ap O (e1':=Rw zrC ((l.take i).map (zrV d))++[[.vec bv 2 0 d.length,.bool (decide (k<0)),.sl 1 (Rw F5 (B4 k.natAbs)),.bool a.e]]) (D20 _) (by simp only[A6];exact L) (by simp) (by rw[D6,fl]) (by simp only[D1e,D1g];omega) (by simp only[D1e,D1g];omega) rfl fun T H' X=>?_;clear O q1 q2 L;repeat' (first|simp only[go_sem,seval]|simp(disch:=omega) only[A4,A9])
   have C:=X.n1 _ rfl;have U:bv≠T:=fun g=>by rw[←g,A0]at C;cases C
   have eX:Rw zrC ((l.take (i+1)).map (zrV d))=Rw zrC ((l.take i).map (zrV d))++[.sl 2 (s9 d a.t)::[.bool (decide (k<0)),.sl 1 (Rw F5 (B4 k.natAbs)),.bool a.e]]:=by rw[fs,←P1,hk];rfl
   refine B6j (i+1,some T) ⟨by simp only[];omega,by simp,fun b e=>?_⟩ (by simp only[];omega) ?_
   ·have:=X.n1 _ e;rw[A3 _ (by cases e;exact U.symm)]at this;exact this
   ·show A1b _ (Bs.set T (.vec 4 (Rw zrC ((l.take (i+1)).map (zrV d))))) _ _;rw[eX];refine A1C (by(try simp only[go_sem,seval,K6])<;>(try simp(disch:=omega) [A4])) (by rw[B1Q]) X.a1 (X.le _ _ (A0 _ _)) U (fun q o hq ho=>?_);have V:q≠bv:=fun g=>by rw[g,g4]at ho;cases ho
    exact⟨V,X.le q o (by rw[A3 _ V];exact ho)⟩
 ·have c1:decide ((i:Int)<l.length)=false:=D1c (by omega);have c4:i=l.length:=by omega
  rw[D1o (by omega),←B7p]at A;have g5:i=(zrR d l 0).length:=by rw[B4F];omega
  have c3:=A.le _ _ e3;rw[g5];repeat' simp only[go_sem,seval,D1c (show¬(((zrR d l 0).length:Nat):Int)<l.length by omega),c3]
  clear c1 c0 ho hi a5 fl c4;refine C2 [6,61] (fun(p:Nat×Option Nat×Heap)=>[(62,.int .i64 p.1),(5,J8 4 (zrR d l p.1).length p.2.1)]) (fun(p:Nat×Option Nat×Heap)=>p.2.2) (fun(p:Nat×Option Nat×Heap)=>p.1≤d.length∧O3 Bs p.2.2 4 (Rw zrC (zrR d l p.1)) [] [] p.2.1 none none) (fun(p:Nat×Option Nat×Heap)=>d.length-p.1) ((0,o1,Hp)) (⟨D1u _,A⟩) (by simp only[go_sem,seval]) (D20 _) ?_;clear A c3;obtain⟨M,hM⟩: ∃M:Int,M=2147483647:=⟨_,rfl⟩
  have wm: ∀(H:Heap) (Q:D→Heap→Prop),Q (.agg (C4 M)) H→D8 228 [.int .i64 2147483647] H Q:=fun H Q hq=>y9 2147483647 (by omega) (by omega) H (by rw[←hM];exact hq);rintro Ec rfl ⟨i,o1,Hp⟩ ⟨hi,A⟩;simp only at hi A;by_cases hit:i<d.length
  ·have G:decide ((i:Int)<d.length)=true:=D1b (by omega);have e4:(i:Int)<d.length:=by omega
   repeat' (first|simp only[go_sem,seval,G]|(intro m;try simp only[A6]at m))
   rename_i bs;have e6:=m;clear m;have g3:=A.grow e6 (.vec 1 [[.int .i64 1],[.int .i64 (-1)]]);have es:(Bs.set bs (.vec 1 [[.int .i64 1],[.int .i64 (-1)]])) bs=some (.vec 1 [[.int .i64 1],[.int .i64 (-1)]]):=A0 _ _;have c5:Bs.Le (Bs.set bs (.vec 1 [[.int .i64 1],[.int .i64 (-1)]])):=A2 (A.le.none e6);generalize Hp.set bs (.vec 1 [[.int .i64 1],[.int .i64 (-1)]])=Hq at g3⊢;generalize Bs.set bs (.vec 1 [[.int .i64 1],[.int .i64 (-1)]])=B1 at g3 es c5;rw[←B7n]at g3⊢;refine C2 [6,14,61,62,65,66] (fun(p:Nat×Option Nat×Heap)=>[(67,.int .i64 p.1),(5,J8 4 (zrJ d l i p.1).length p.2.1)]) (fun(p:Nat×Option Nat×Heap)=>p.2.2) (fun(p:Nat×Option Nat×Heap)=>p.1≤2∧O3 B1 p.2.2 4 (Rw zrC (zrJ d l i p.1)) [] [] p.2.1 none none) (fun(p:Nat×Option Nat×Heap)=>2-p.1) ((0,o1,Hq)) (⟨D1u _,g3⟩) (by simp only[go_sem,seval]) (D20 _) ?_;clear g3 A;rintro Ec rfl ⟨j,o1,Hp⟩ ⟨hj,A⟩;simp only at hj A;have d3:=A.le _ _ (c5 _ _ e3);have ds:=A.le _ _ es
   match j,hj with
   |0,_=>
    have k3:decide (((0:Nat):Int)<((2:Nat):Int))=true:=by decide
    have g1:=C0X d l i;have gl:=A6C d l i 0 (by omega);have c6:=A6C d l i (1) (by omega);obtain⟨s,hs⟩: ∃s:Int,s=1:=⟨1,rfl⟩
    have ws: ∀(H:Heap) (Q:D→Heap→Prop),Q (.agg (C4 s)) H→D8 228 [.int .i64 (1)] H Q:=fun H Q hq=>y9 (1) (by omega) (by omega) H (by rw[←hs];exact hq);repeat' (first|simp only[go_sem,seval,k3,ds,d3,D18,D19]|(intro m;try simp only[A6]at m)|with_reducible refine A9a W d hn _ d3 ?_|with_reducible refine wm _ _ ?_)
    rename_i v hv r;have a0:=m;clear m;have nb:r≠v:=a0.1;have c7:r∈[r]:=by simp
    have a4:(List.replicate d.length zB)[i]? =some zB∧(List.replicate d.length zB).getD i []=zB:=by
     have:(List.replicate d.length zB)[i]? =some zB:=by simp[hit]
     exact⟨this,by rw[List.getD_eq_getElem?_getD,this];rfl⟩
    have b2:(List.replicate d.length zB).length=d.length:=List.length_replicate;refine F7 (fun i'=>if i'=4 then .agg (C4 s)else .undef) [r] ?_;obtain⟨Z,hZ⟩: ∃Z,Z=List.replicate d.length zB:=⟨_,rfl⟩
    rw[←hZ]at a4 b2⊢;repeat' (first|with_reducible apply D1Z|simp only[go_sem,seval,c7,e4,b2,a4.1,a4.2]|simp(disch:=first|omega|grind) only[B3]|(intro m;try simp only[A6]at m)|with_reducible refine S6 (fun H' Q hro hq=>ws H' Q hq) ?_|omega)
    rename_i bx;have L:=m;clear m;have J:Z.set i ((zB.set 0 (D.bool (decide (s<0)))).set 1 (D.sl 1 (Rw F5 (B4 s.natAbs))))=(List.replicate d.length zB).set i (C4 s):=by rw[hZ];rfl
    rw[J];obtain⟨Y,hY⟩: ∃Y,Y=(List.replicate d.length zB).set i (C4 s):=⟨_,rfl⟩
    rw[←hY];have c9:Y.length=d.length:=by rw[hY,D2W,List.length_replicate]
    have d0:B1 v=none:=A.le.none hv;have q1:(B1.set v (.vec 2 Y)).Le (((Hp.set v (.vec 2 Z)).set r (.box [.vec v 2 0 d.length,.bool (decide (M<0)),.sl 1 (Rw F5 (B4 M.natAbs)),.bool false])).set v (.vec 2 Y)):=by
     intro q o hq;by_cases g:q=v
     ·subst g;rw[A0]at hq⊢;exact hq
     ·rw[A3 _ g]at hq;have u:=A.le _ _ hq;have g9:q≠r:=fun g=>by rw[g,a0.2]at u;cases u
      rw[A3 _ g,A3 _ g9,A3 _ g];exact u
    have q2:Hp.Le (((Hp.set v (.vec 2 Z)).set r (.box [.vec v 2 0 d.length,.bool (decide (M<0)),.sl 1 (Rw F5 (B4 M.natAbs)),.bool false])).set v (.vec 2 Y)):=by
     intro q o u;have g:q≠v:=fun g=>by rw[g,hv]at u;cases u
     have g9:q≠r:=fun g=>by rw[g,a0.2]at u;cases u
     rw[A3 _ g,A3 _ g9,A3 _ g];exact u
    have O:=A.base q1 q2 (fun b b0 b1=>by rw[A3 _ (fun g=>b0 (by rw[g];exact hv))];exact b1);refine O3.ap O (e1':=Rw zrC (zrJ d l i 0)++[[.vec v 2 0 d.length,.bool (decide (M<0)),.sl 1 (Rw F5 (B4 M.natAbs)),.bool false]]) (D20 _) (by simp only[A6];simp only[L,ne_eq,not_false_eq_true,and_self]) (by simp) (by rw[D6]) (by simp only[D1e,D1g];omega) (by simp only[D1e,D1g];omega) rfl fun T H' X=>?_;clear O q1 q2 L;repeat' (first|simp only[go_sem,seval]|simp(disch:=omega) only[A4,A9])
    have C:=X.n1 _ rfl;have U:v≠T:=fun g=>by rw[←g,A0]at C;cases C
    have d2:B1 T=none:=by rw[A3 _ U.symm]at C;exact C
    have eX:Rw zrC (zrJ d l i 1)=Rw zrC (zrJ d l i 0)++[.sl 2 Y::[.bool (decide (M<0)),.sl 1 (Rw F5 (B4 M.natAbs)),.bool false]]:=by rw[g1,←P1,hY,hM,hs];rfl
    refine B6j (1,some T,B1.set T (.vec 4 (Rw zrC (zrJ d l i 1)))) ⟨by simp only[];omega,O3.put (H:=B1) (ob:=some T) (by simp) (fun b e=>by cases e;exact d2)⟩ (by simp only[];omega) ?_;show A1b _ (B1.set T (.vec 4 (Rw zrC (zrJ d l i 1)))) _ _;rw[eX];refine A1C (by simp only[go_sem,seval,K6,gl,c6]) c9.symm X.a1 (X.le _ _ (A0 _ _)) U (fun q o hq ho=>?_);have V:q≠v:=fun g=>by rw[g,d0]at ho;cases ho
    exact⟨V,X.le q o (by rw[A3 _ V];exact ho)⟩
   |1,_=>
    have k3:decide (((1:Nat):Int)<((2:Nat):Int))=true:=by decide
    have g1:=B7o d l i;have gl:=A6C d l i 1 (by omega);have c6:=A6C d l i (2) (by omega);obtain⟨s,hs⟩: ∃s:Int,s= -1:=⟨-1,rfl⟩
    have ws: ∀(H:Heap) (Q:D→Heap→Prop),Q (.agg (C4 s)) H→D8 228 [.int .i64 (-1)] H Q:=fun H Q hq=>y9 (-1) (by omega) (by omega) H (by rw[←hs];exact hq);repeat' (first|simp only[go_sem,seval,k3,ds,d3,D18,D19]|(intro m;try simp only[A6]at m)|with_reducible refine A9a W d hn _ d3 ?_|with_reducible refine wm _ _ ?_)
    rename_i v hv r;have a0:=m;clear m;have nb:r≠v:=a0.1;have c7:r∈[r]:=by simp
    have a4:(List.replicate d.length zB)[i]? =some zB∧(List.replicate d.length zB).getD i []=zB:=by
     have:(List.replicate d.length zB)[i]? =some zB:=by simp[hit]
     exact⟨this,by rw[List.getD_eq_getElem?_getD,this];rfl⟩
    have b2:(List.replicate d.length zB).length=d.length:=List.length_replicate;refine F7 (fun i'=>if i'=4 then .agg (C4 s)else .undef) [r] ?_;obtain⟨Z,hZ⟩: ∃Z,Z=List.replicate d.length zB:=⟨_,rfl⟩
    rw[←hZ]at a4 b2⊢;repeat' (first|with_reducible apply D1Z|simp only[go_sem,seval,c7,e4,b2,a4.1,a4.2]|simp(disch:=first|omega|grind) only[B3]|(intro m;try simp only[A6]at m)|with_reducible refine S6 (fun H' Q hro hq=>ws H' Q hq) ?_|omega)
    rename_i bx;have L:=m;clear m;have J:Z.set i ((zB.set 0 (D.bool (decide (s<0)))).set 1 (D.sl 1 (Rw F5 (B4 s.natAbs))))=(List.replicate d.length zB).set i (C4 s):=by rw[hZ];rfl
    rw[J];obtain⟨Y,hY⟩: ∃Y,Y=(List.replicate d.length zB).set i (C4 s):=⟨_,rfl⟩
    rw[←hY];have c9:Y.length=d.length:=by rw[hY,D2W,List.length_replicate]
    have d0:B1 v=none:=A.le.none hv;have q1:(B1.set v (.vec 2 Y)).Le (((Hp.set v (.vec 2 Z)).set r (.box [.vec v 2 0 d.length,.bool (decide (M<0)),.sl 1 (Rw F5 (B4 M.natAbs)),.bool false])).set v (.vec 2 Y)):=by
     intro q o hq;by_cases g:q=v
     ·subst g;rw[A0]at hq⊢;exact hq
     ·rw[A3 _ g]at hq;have u:=A.le _ _ hq;have g9:q≠r:=fun g=>by rw[g,a0.2]at u;cases u
      rw[A3 _ g,A3 _ g9,A3 _ g];exact u
    have q2:Hp.Le (((Hp.set v (.vec 2 Z)).set r (.box [.vec v 2 0 d.length,.bool (decide (M<0)),.sl 1 (Rw F5 (B4 M.natAbs)),.bool false])).set v (.vec 2 Y)):=by
     intro q o u;have g:q≠v:=fun g=>by rw[g,hv]at u;cases u
     have g9:q≠r:=fun g=>by rw[g,a0.2]at u;cases u
     rw[A3 _ g,A3 _ g9,A3 _ g];exact u
    have O:=A.base q1 q2 (fun b b0 b1=>by rw[A3 _ (fun g=>b0 (by rw[g];exact hv))];exact b1);refine O3.ap O (e1':=Rw zrC (zrJ d l i 1)++[[.vec v 2 0 d.length,.bool (decide (M<0)),.sl 1 (Rw F5 (B4 M.natAbs)),.bool false]]) (D20 _) (by simp only[A6];simp only[L,ne_eq,not_false_eq_true,and_self]) (by simp) (by rw[D6]) (by simp only[D1e,D1g];omega) (by simp only[D1e,D1g];omega) rfl fun T H' X=>?_;clear O q1 q2 L;repeat' (first|simp only[go_sem,seval]|simp(disch:=omega) only[A4,A9])
    have C:=X.n1 _ rfl;have U:v≠T:=fun g=>by rw[←g,A0]at C;cases C
    have d2:B1 T=none:=by rw[A3 _ U.symm]at C;exact C
    have eX:Rw zrC (zrJ d l i 2)=Rw zrC (zrJ d l i 1)++[.sl 2 Y::[.bool (decide (M<0)),.sl 1 (Rw F5 (B4 M.natAbs)),.bool false]]:=by rw[g1,←P1,hY,hM,hs];rfl
    refine B6j (2,some T,B1.set T (.vec 4 (Rw zrC (zrJ d l i 2)))) ⟨by simp only[];omega,O3.put (H:=B1) (ob:=some T) (by simp) (fun b e=>by cases e;exact d2)⟩ (by simp only[];omega) ?_;show A1b _ (B1.set T (.vec 4 (Rw zrC (zrJ d l i 2)))) _ _;rw[eX];refine A1C (by simp only[go_sem,seval,K6,gl,c6]) c9.symm X.a1 (X.le _ _ (A0 _ _)) U (fun q o hq ho=>?_);have V:q≠v:=fun g=>by rw[g,d0]at ho;cases ho
    exact⟨V,X.le q o (by rw[A3 _ V];exact ho)⟩
   |2,_=>
    rw[B4E]at A;repeat' (first|simp only[go_sem,seval,B4E]|simp(disch:=omega) only[A4,A9])
    refine C1 (i+1,o1,Hp) ⟨by simp only[];omega,A.less c5⟩ (by simp only[];omega) (by(try simp only[go_sem,seval])<;>(try simp(disch:=omega) [A4])) (D20 _)
   |j+3,hj=>omega
  ·have G:decide ((i:Int)<d.length)=false:=D1c (by omega);have c4:i=d.length:=by omega
   subst c4;repeat' simp only[go_sem,seval,G]
   refine Fin.out (by rw[D6]) A.a1 (D4 (B5O _ (C4M d l _ (D1t _))) ?_);rw[B7m];exact D21 (b7.trans (O3.one A)) h
open Go Go.Av Go.Lin
set_option maxHeartbeats 4000000 in
theorem C0Y{Q}(l:List Row)(n:Nat)(hlen:l.length≤1000000)(hn:n≤1000000)(hP: ∀r∈l,A42 n 18446744073709551616 r)(H:Heap)(h:Q (B1X (A0W [] (pairs1 l))) H):D8 250 [.sl 4 (Rw C5 l)] H Q:=by
 refine A8 [(10,.par),(11,.par),(23,.par),(24,.par)] A5 Tryz.func250 rfl ?_;simp only[go_sem,seval,Tryz.results250];have z0:D.nilsl=J8 4 (pairs1 (l.take 0)).length none:=rfl;repeat' (first|with_reducible apply D1Z|simp only[go_sem,seval]|simp(disch:=omega) only[A4,A9]|intro L|omega)
 refine C2 [13,14] (fun(p:Nat×Option Nat×Heap)=>[(15,.int .i64 p.1),(4,J8 4 (pairs1 (l.take p.1)).length p.2.1)]) (fun(p:Nat×Option Nat×Heap)=>p.2.2) (fun(p:Nat×Option Nat×Heap)=>p.1≤l.length∧O3 H p.2.2 4 (Rw C5 (pairs1 (l.take p.1))) [] [] p.2.1 none none) (fun(p:Nat×Option Nat×Heap)=>l.length-p.1) ((0,none,H)) (⟨D1u _,O3.nil H 4⟩) (by simp only[go_sem,seval]) (D20 _) ?_;rintro Ec rfl ⟨i,o1,Hp⟩ ⟨hi,x⟩;simp only at hi x;have hz:o1=none→(pairs1 (l.take i)).length=0:=fun e=>by
  have:=x.a1;rw[e]at this;have this:Rw C5 (pairs1 (l.take i))= []:=this;rw[←D6 (f:=C5),this];rfl
 have ol:(pairs1 (l.take i)).length≤1000000:=by have:=A68 (l.take i) [];simp at this;unfold pairs1;omega
 have oP: ∀s∈pairs1 (l.take i),A42 n 18446744073709551616 s:=B1V _ _ (fun s hs=>hP s (List.mem_of_mem_take hs)) (by simp);by_cases a0:i<l.length
 ·have a5:decide ((i:Int)<l.length)=true:=D1b (by omega);have c6:(i:Int)<l.length:=by omega
  have ps:=B1U l i a0;have hr:=hP _ (D1n a0);generalize pairs1 (l.take i)=out at x hz ol oP ps⊢;obtain⟨r,b2⟩: ∃r,r=l[i]:=⟨_,rfl⟩
  rw[←b2]at ps hr;repeat' (first|with_reducible apply D1Z|simp only[go_sem,seval,a5,A9 _ _ a0,C0 _ _ a0,←b2,B3q hz]|intro L|omega)
  rename_i b6;have h6:=L;clear L;have e6:(Hp.set b6 (.box (C5 r))) b6=some (.box (C5 r)):=A0 _ _;have C:Hp.Le (Hp.set b6 (.box (C5 r))):=A2 h6;generalize Hp.set b6 (.box (C5 r))=Hq at e6 C⊢;refine C2 [4,6,13,14,15,20] (fun(j:Nat)=>[(21,.int .i64 j)]) (fun(j:Nat)=>Hq) (fun(j:Nat)=>j≤out.length∧∀(k:Nat) (hk:k<out.length),k<j→¬hit r out[k]) (fun(j:Nat)=>out.length-j) (0) (⟨D1u _,fun _ _ h=>absurd h (D2p _)⟩) (by simp only[go_sem,seval]) (D20 _) ?_;rintro Ec rfl j ⟨hj,U⟩;by_cases q:j<out.length
  ·have G:decide ((j:Int)<out.length)=true:=D1b (by omega);have V:(j:Int)<out.length:=by omega
   obtain⟨c,rfl⟩: ∃c,o1=some c:=by
    cases o1 with
    |none=>have:=hz rfl;omega
    |some c=>exact⟨c,rfl⟩
   have O:Hq c=some (.vec 4 (Rw C5 out)):=C _ _ x.a1;have hs:=oP _ (D1n q);have step: ¬hit r out[j]→∀(k:Nat) (hk:k<out.length),k<j+1→¬hit r out[k]:=fun g k hk c7=>by
    by_cases e:k=j
    ·subst e;exact g
    ·exact U k hk (by omega)
   have a6: ¬hit r out[j]→(j+1≤out.length∧∀(k:Nat) (hk:k<out.length),k<j+1→¬hit r out[k]):=fun g=>⟨by omega,step g⟩
   have m6:b6∈[b6,c]:=by simp
   have W:c∈[b6,c]:=by simp
   cases u:r.eq with
   |true=>
    repeat' (first|with_reducible apply D1Z|simp only[go_sem,seval,G,e6,O,u]|simp(disch:=omega) only[A4,A9]|omega)
    exact C1 (j+1) (a6 (fun g=>by have:=g.1;rw[u]at this;cases this)) (by omega) (by(try simp only[go_sem,seval])<;>(try simp(disch:=omega) [A4])) (D20 _)
   |false=>
    cases y:out[j].eq with
    |true=>
     repeat' (first|with_reducible apply D1Z|simp only[go_sem,seval,G,e6,O,u,V,A9 _ _ q,C0 _ _ q,y]|simp(disch:=omega) only[A4,A9]|omega)
     exact C1 (j+1) (a6 (fun g=>by have:=g.2.1;rw[y]at this;cases this)) (by omega) (by(try simp only[go_sem,seval])<;>(try simp(disch:=omega) [A4])) (D20 _)
    |false=>
     repeat' (first|with_reducible apply D1Z|simp only[go_sem,seval,G,e6,O,u,V,A9 _ _ q,C0 _ _ q,y]|omega)
     refine F7 (fun A=>if A=4 then .bool (A4t r out[j] 1)else .undef) [b6,c] ?_;cases ho:A4t r out[j] 1 with
     |false=>
      repeat' (first|simp only[go_sem,seval,e6,O,m6,W,V,A9 _ _ q,C0 _ _ q]|simp(disch:=omega) only[A4,A9]|with_reducible refine S6 (fun H' Q hro hq=>A3T r out[j] 1 (.inl rfl) (by rw[hr.1,hs.1]) (by rw[hr.1];exact hn) hr.2 hs.2 H' (by rw[ho];exact hq)) ?_)
      exact C1 (j+1) (a6 (fun g=>by have:=g.2.2;rw[ho]at this;cases this)) (by omega) (by(try simp only[go_sem,seval])<;>(try simp(disch:=omega) [A4])) (D20 _)
     |true=>
      have hh:hit r out[j]:=⟨u,y,ho⟩
      have ph:=B1S r out j q U hh;have sk:=hr.2.1;have b8:=hs.2.1;have s1:Sz r.k:=H9 (by omega);have s2:Sz out[j].k:=H9 (by omega);repeat' (first|simp only[go_sem,seval,e6,O,m6,W,V,A9 _ _ q,C0 _ _ q]|with_reducible refine S6 (fun H' Q hro hq=>A3T r out[j] 1 (.inl rfl) (by rw[hr.1,hs.1]) (by rw[hr.1];exact hn) hr.2 hs.2 H' (by rw[ho];exact hq)) ?_)
      refine F7 (fun A=>if A=6 then .bool (decide (r.k<out[j].k))else .undef) [b6,c] ?_;repeat' (first|with_reducible apply D1Z|simp only[go_sem,seval,e6,O,m6,W,V,A9 _ _ q,C0 _ _ q]|simp(disch:=omega) only[A4,A9]|intro L|with_reducible refine S6 (fun H' Q hro hq=>B33 r.k out[j].k s1 s2 H' hq) ?_|omega)
      ·have hk:r.k<out[j].k:=by assumption
       rw[if_pos hk]at ph;have e:pairs1 (l.take (i+1))=out.set j {out[j]with k:=r.k}:=by rw[ps,ph]
       have el:(pairs1 (l.take (i+1))).length=out.length:=by rw[e,D2W]
       refine C1 (i+1,some c,Hq.set c (.vec 4 (Rw C5 (pairs1 (l.take (i+1)))))) ⟨by simp only[];omega,x.set1 C⟩ (by simp only[];omega) (by(try simp only[go_sem,seval,el,K6])<;>(try simp(disch:=omega) [A4])) ?_;simp only[];rw[e,←Z9 out j {out[j]with k:=r.k} _ rfl];exact D20 _
      ·have hk: ¬r.k<out[j].k:=by omega
       rw[if_neg hk]at ph;have e:pairs1 (l.take (i+1))=out:=by rw[ps,ph]
       refine C1 (i+1,some c,Hp) ⟨by simp only[];omega,by simp only[e];exact x⟩ (by simp only[];omega) (by(try simp only[go_sem,seval,e,K6])<;>(try simp(disch:=omega) [A4])) C
  ·have G:decide ((j:Int)<out.length)=false:=D1c (by omega);have e:pairs1 (l.take (i+1))=out++[r]:=by rw[ps,A8M r out (fun k hk=>U k hk (by omega))]
   have el:(pairs1 (l.take (i+1))).length=out.length+1:=by rw[e];simp
   repeat' (first|simp only[go_sem,seval,G,e6]|intro L)
   rename_i bx;have b9:=L;clear L;refine O3.ap x (e1':=Rw C5 (pairs1 (l.take (i+1)))) C b9 (by simp) (by rw[D6]) (by simp only[D1e,D1g];omega) (by simp only[D1e,D1g];omega) (by rw[e,←P1];rfl) fun b' H' h4=>?_;repeat' (first|simp only[go_sem,seval]|simp(disch:=omega) only[A4,A9])
   refine C1 (i+1,some b',H') ⟨by simp only[];omega,h4⟩ (by simp only[];omega) (by(try simp only[go_sem,seval,K6,el])<;>(try simp(disch:=omega) [A4])) (D20 _)
 ·have a5:decide ((i:Int)<l.length)=false:=D1c (by omega);rw[D1o (by omega)]at x hz ol oP;have e1:l.take i=l:=D1o (by omega);rw[e1]at*;have c8:(pairs1 l).length≤1000000:=ol;generalize pairs1 l=m at*;repeat' simp only[go_sem,seval,a5,B3q hz]
  refine C2 [4,59] (fun(p:Nat×List Row×Heap)=>[(60,.int .i64 p.1)]) (fun(p:Nat×List Row×Heap)=>p.2.2) (fun(p:Nat×List Row×Heap)=>p.1≤m.length∧p.2.1.length=m.length∧p.2.1.drop p.1=m.drop p.1∧A0W [] m=A0W (p.2.1.take p.1) (m.drop p.1)∧(∀s∈p.2.1,A42 n 18446744073709551616 s)∧O3 H p.2.2 4 (Rw C5 p.2.1) [] [] o1 none none) (fun(p:Nat×List Row×Heap)=>m.length-p.1) ((0,m,Hp)) (⟨D1u _,rfl,rfl,rfl,oP,x⟩) (by simp only[go_sem,seval]) (D20 _) ?_;clear x oP;rintro Ec rfl ⟨i,X,Hp⟩ ⟨c0,T,a9,z,a4,x⟩;simp only at c0 T a9 z a4 x;by_cases hit:i<m.length
  ·have Y:decide ((i:Int)<m.length)=true:=D1b (by omega);have c9:(i:Int)<m.length:=by omega
   obtain⟨c,rfl⟩: ∃c,o1=some c:=by
    cases o1 with
    |none=>have:=hz rfl;omega
    |some c=>exact⟨c,rfl⟩
   have b0:i<X.length:=by omega
   have c1:m[i]=X[i]:=by
    have h1:=D14 b0;have h2:=D14 hit;rw[a9,h2]at h1;exact(List.cons.inj h1).1
   rw[D14 hit,B1W,c1]at z;repeat' simp only[go_sem,seval,Y]
   refine C2 [4,9,59,60,63] (fun(p:Nat×Row×Heap)=>[(64,.int .i64 p.1)]) (fun(p:Nat×Row×Heap)=>p.2.2) (fun(p:Nat×Row×Heap)=>p.1≤i∧A42 n 18446744073709551616 p.2.1∧A5v X[i] (X.take i)=A5v p.2.1 ((X.take i).drop p.1)∧O3 H p.2.2 4 (Rw C5 (X.set i p.2.1)) [] [] (some c) none none) (fun(p:Nat×Row×Heap)=>i-p.1) ((0,X[i],Hp)) (⟨D1u _,a4 _ (D1n b0),rfl,by rw[List.set_getElem_self];exact x⟩) (by simp only[go_sem,seval]) (D20 _) ?_;clear x;rintro Ec rfl ⟨j,r,Hp⟩ ⟨hj,hr,hm,x⟩;simp only at hj hr hm x;by_cases q:j<i
   ·have I:decide ((j:Int)<i)=true:=D1b (by omega);have c2:j<X.length:=by omega
    have hs:=a4 _ (D1n c2);obtain⟨s,b1⟩: ∃s,s=X[j]:=⟨_,rfl⟩
    rw[←b1]at hs;have dj:(X.take i).drop j=s::(X.take i).drop (j+1):=by
     rw[D14 (by rw[D2H];omega),List.getElem_take,b1]
    rw[dj,B5R]at hm;have yi:(X.set i r).length=X.length:=D2W ..;have b3:i<(X.set i r).length:=by omega
    have b4:j<(X.set i r).length:=by omega
    have gi:(X.set i r)[i]=r:=List.getElem_set_self ..;have gj:(X.set i r)[j]=s:=by rw[List.getElem_set_ne (by omega),b1]
    have d:(i:Int)<X.length:=by omega
    have o:(j:Int)<X.length:=by omega
    have O:Hp c=some (.vec 4 (Rw C5 (X.set i r))):=x.a1;have ri:=A9 (f:=C5) (X.set i r) i b3;have J:=C0 (f:=C5) (X.set i r) i b3;have rj:=A9 (f:=C5) (X.set i r) j b4;have M:=C0 (f:=C5) (X.set i r) j b4;rw[gi]at ri J;rw[gj]at rj M;have W:c∈[c]:=by simp
    cases u:r.eq with
    |true=>
     rw[if_pos (.inl u)]at hm;repeat' (first|with_reducible apply D1Z|simp only[go_sem,seval,I,d,o,←T]|omega)
     refine F7 (fun A=>.undef) [c] ?_;repeat' (first|simp only[go_sem,seval,O,W,ri,J,u,yi,d]|simp(disch:=omega) only[A4,A9])
     exact C1 (j+1,r,Hp) ⟨by simp only[];omega,hr,hm,x⟩ (by simp only[];omega) (by(try simp only[go_sem,seval])<;>(try simp(disch:=omega) [A4])) (D20 _)
    |false=>
     cases y:s.eq with
     |true=>
      rw[if_pos (.inr (.inl y))]at hm;repeat' (first|with_reducible apply D1Z|simp only[go_sem,seval,I,d,o,←T]|omega)
      refine F7 (fun A=>.undef) [c] ?_;repeat' (first|simp only[go_sem,seval,O,W,ri,J,rj,M,u,y,yi,d,o]|simp(disch:=omega) only[A4,A9])
      exact C1 (j+1,r,Hp) ⟨by simp only[];omega,hr,hm,x⟩ (by simp only[];omega) (by(try simp only[go_sem,seval])<;>(try simp(disch:=omega) [A4])) (D20 _)
     |false=>
      have c3:r.c.length=s.c.length:=by rw[hr.1,hs.1]
      have c4:r.c.length≤1000000:=by rw[hr.1];exact hn
      have b7: ∀(b:Bool),A4t r s (-1)=b→∀(H':Heap) (Q:D→Heap→Prop),Q (.bool b) H'→D8 281 [.agg [.sl 2 (Rw C4 r.c),.bool (decide (r.k<0)),.sl 1 (Rw F5 (B4 r.k.natAbs)),.bool false],.agg [.sl 2 (Rw C4 s.c),.bool (decide (s.k<0)),.sl 1 (Rw F5 (B4 s.k.natAbs)),.bool false],.int .i64 (-1)] H' Q:=fun b hb H' Q hq=>by
       have h0:=A3T (Q:=Q) r s (-1) (.inr rfl) c3 c4 hr.2 hs.2 H' (by rw[hb];exact hq);rw[B68,B68,u,y]at h0;exact h0
      repeat' (first|with_reducible apply D1Z|simp only[go_sem,seval,I,d,o,←T]|omega)
      cases ho:A4t r s (-1)with
      |false=>
       rw[if_pos (.inr (.inr ho))]at hm;refine F7 (fun A=>if A=17 then .bool false else .undef) [c] ?_;repeat' (first|simp only[go_sem,seval,O,W,ri,J,rj,M,u,y,yi,d,o]|simp(disch:=omega) only[A4,A9]|with_reducible refine S6 (fun H' Q hro hq=>b7 _ ho H' Q hq) ?_)
       exact C1 (j+1,r,Hp) ⟨by simp only[];omega,hr,hm,x⟩ (by simp only[];omega) (by(try simp only[go_sem,seval])<;>(try simp(disch:=omega) [A4])) (D20 _)
      |true=>
       rw[if_neg (by rw[u,y,ho];decide)]at hm;have sk:=hr.2.1;have b8:=hs.2.1;have s1:Sz r.k:=H9 (by omega);have s2:Sz s.k:=H9 (by omega);refine F7 (fun A=>if A=17 then .bool true else .undef) [c] ?_;repeat' (first|simp only[go_sem,seval,O,W,ri,J,rj,M,u,y,yi,d,o]|with_reducible refine S6 (fun H' Q hro hq=>b7 _ ho H' Q hq) ?_)
       rcases Int.lt_trichotomy (r.k+s.k) 0 with g|g|g
       ·rw[if_pos g]at hm;have sg:(r.k+s.k).sign= -1:=Int.sign_eq_neg_one_of_neg g;rw[hm]at z;simp only[]at z;rw[z]at h;refine F7 (fun A=>if A=8 then .agg (C4 (r.k+s.k))else if A=9 then .int .i64 (-1)else .undef) [c] ?_;repeat' (first|simp only[go_sem,seval,O,W,ri,J,rj,M,yi,d,o]|with_reducible refine S6 (fun H' Q hro hq=>A0k r.k s.k s1 s2 H' hq) ?_|with_reducible refine S6 (fun H' Q hro hq=>L9 (r.k+s.k) H' (by rw[sg];exact hq)) ?_)
        exact Fin.nilsl 4 _ (D21 x.le h)
       ·have g1: ¬r.k+s.k<0:=by omega
        rw[if_neg g1,if_pos g]at hm;have sg:(r.k+s.k).sign=0:=by rw[g];rfl
        refine F7 (fun A=>if A=8 then .agg (C4 (r.k+s.k))else if A=9 then .int .i64 0 else .undef) [c] ?_;repeat' (first|with_reducible apply D1Z|simp only[go_sem,seval,O,W,ri,J,rj,M,yi,d,o]|simp(disch:=omega) only[A4,A9]|with_reducible refine S6 (fun H' Q hro hq=>A0k r.k s.k s1 s2 H' hq) ?_|with_reducible refine S6 (fun H' Q hro hq=>L9 (r.k+s.k) H' (by rw[sg];exact hq)) ?_|omega)
        refine C1 (j+1,{r with eq:=true},Hp.set c (.vec 4 (Rw C5 (X.set i {r with eq:=true})))) ⟨by simp only[];omega,⟨hr.1,hr.2⟩,hm,x.set1 (D20 _)⟩ (by simp only[];omega) (by(try simp only[go_sem,seval])<;>(try simp(disch:=omega) [A4])) ?_;simp only[];rw[←List.set_set (a:=r) (b:=({r with eq:=true}:Row)),←Z9 (X.set i r) i {r with eq:=true} _ rfl];exact D20 _
       ·have g1: ¬r.k+s.k<0:=by omega
        have g2: ¬r.k+s.k=0:=by omega
        rw[if_neg g1,if_neg g2]at hm;have sg:(r.k+s.k).sign=1:=Int.sign_eq_one_of_pos g;refine F7 (fun A=>if A=8 then .agg (C4 (r.k+s.k))else if A=9 then .int .i64 1 else .undef) [c] ?_;repeat' (first|simp only[go_sem,seval,O,W,ri,J,rj,M,yi,d,o]|simp(disch:=omega) only[A4,A9]|with_reducible refine S6 (fun H' Q hro hq=>A0k r.k s.k s1 s2 H' hq) ?_|with_reducible refine S6 (fun H' Q hro hq=>L9 (r.k+s.k) H' (by rw[sg];exact hq)) ?_)
        exact C1 (j+1,r,Hp) ⟨by simp only[];omega,hr,hm,x⟩ (by simp only[];omega) (by(try simp only[go_sem,seval])<;>(try simp(disch:=omega) [A4])) (D20 _)
   ·have I:decide ((j:Int)<i)=false:=D1c (by omega);have c5:j=i:=by omega
    subst c5;rw[List.drop_eq_nil_of_le (by rw[D2H];omega)]at hm;rw[hm]at z;simp only[A5v]at z;repeat' (first|simp only[go_sem,seval,I]|simp(disch:=omega) only[A4,A9])
    refine C1 (j+1,X.set j r,Hp) ⟨by simp only[];omega,by simp only[D2W];exact T,?_,?_,?_,x⟩ (by simp only[];omega) (by(try simp only[go_sem,seval])<;>(try simp(disch:=omega) [A4])) (D20 _)
    ·show (X.set j r).drop (j+1)=m.drop (j+1);rw[List.drop_set_of_lt (by omega),←D2j,←D2j,a9]
    ·show A0W [] m=A0W ((X.set j r).take (j+1)) (m.drop (j+1));rw[z,D1s (by rw[D2W];exact b0),List.take_set_of_le (by omega),List.getElem_set_self]
    ·intro s hs;rcases List.mem_or_eq_of_mem_set hs with g|g
     ·exact a4 s g
     ·rw[g];exact hr
  ·have Y:decide ((i:Int)<m.length)=false:=D1c (by omega);rw[List.drop_eq_nil_of_le (by omega),D1o (by omega)]at z;rw[z]at h;repeat' simp only[go_sem,seval,Y]
   refine A7a (by rw[D6];exact T.symm) x.a1 (D21 (O3.one x) h)
end Go.Proofs.YtibphjonmikciaaGreatDoor
namespace Go.Lin
def CS(m:Nat)(c:List Int):Prop:=∀x∈c,x.natAbs<m
def AP(n m:Nat)(l:List Row):Prop:=∀r∈l,A42 n m r
def TA(l:List Row)(X:List Row)(i:Nat):Prop:=Z1 l=(Z1 (l.drop i)).map (X++ ·)
def TS(l X:List Row)(r:Row)(i:Nat):Prop:=Z1 l=(A1J r).bind fun x=>(Z1 (l.drop (i+1))).map ((X++x)++ ·)
end Go.Lin
namespace Go.Proofs.YtibphjonmikciaaGreatDoor
open Go Go.Av Go.Lin
attribute [local irreducible] ACalls Q4
set_option maxHeartbeats 4000000 in
theorem C4O{Q}(l:List Row)(n:Nat)(hlen:l.length≤1000000)(hn:n≤1000000)(hP:AP n 4611686018427387904 l)(hS: ∀r∈l,CS 4294967296 r.c)(H:Heap)(h:Q (B1X (B08 l)) H):D8 220 [.sl 4 (Rw C5 l)] H Q:=by
 refine A8 [(17,.par),(19,.par),(23,.par)] A5 Tryz.func220 rfl ?_;simp only[go_sem,seval,Tryz.results220];have z0:D.nilsl=J8 4 0 none:=rfl;unfold B08 at h;repeat' (first|with_reducible apply D1Z|simp only[go_sem,seval]|simp(disch:=omega) only[A4,A9]|simp(disch:=first|omega|grind) only[B3]|(intro u;try simp only[A6]at u)|omega)
 refine C2 [15,16] (fun(p:Nat×List Row×Option Nat)=>[(17,.int .i64 p.1),(4,J8 4 p.2.1.length p.2.2)]) (fun(p:Nat×List Row×Option Nat)=>putB H 4 (Rw C5 p.2.1) p.2.2) (fun(p:Nat×List Row×Option Nat)=>p.1≤l.length∧p.2.1.length≤p.1∧AP n 4611686018427387904 p.2.1∧TA l p.2.1 p.1∧(p.2.2=none→p.2.1= [])∧(∀b,p.2.2=some b→H b=none)) (fun(p:Nat×List Row×Option Nat)=>l.length-p.1) ((0,[],none)) (⟨D1u _,D1t _,(fun s hs=>by cases hs),(by simp[TA]),by simp,by simp⟩) (by simp only[go_sem,seval]) (D20 _) ?_;rintro Ec rfl ⟨i,X,o1⟩ ⟨hi,k3,b1,hT,ho,c4⟩;simp only at hi k3 b1 hT ho c4;have h3:=O3.put (H:=H) (sz:=4) (es:=Rw C5 X) (ob:=o1) (fun e=>by rw[ho e];rfl) c4;generalize putB H 4 (Rw C5 X) o1=Hp at h3⊢;by_cases c5:i<l.length
 ·have U:decide ((i:Int)<l.length)=true:=D1b (by omega);have l0:(i:Int)<l.length:=by omega
  have hr:=hP _ (D1n c5);have c8:=hS _ (D1n c5);have st:TS l X l[i] i:=B5S c5 hT;obtain⟨r,h0⟩: ∃r,r=l[i]:=⟨_,rfl⟩
  rw[←h0]at hr c8 st;have l1:r.c.length≤1000000:=by rw[hr.1];exact hn
  repeat' (first|with_reducible apply D1Z|simp only[go_sem,seval,U,A9 _ _ c5,C0 _ _ c5,←h0]|simp(disch:=first|omega|grind) only[B3]|(intro u;try simp only[A6]at u)|omega)
  rename_i O h6 M;have h7:=u;clear u;have h8:O≠M:=Ne.symm h7.1;have e6:(Hp.set O (.box (C5 r))) O=some (.box (C5 r)):=A0 _ _;have g7:(Hp.set O (.box (C5 r))) M=none:=by rw[A3 _ h7.1];exact h7.2
  have c9:Hp.Le (Hp.set O (.box (C5 r))):=A2 h6;generalize Hp.set O (.box (C5 r))=B6 at e6 g7 c9⊢;clear h7;have d0:=B4C r.c 4294967295 (fun x hx=>by have:=c8 x hx;omega);have i0: ∀(a:Int) (_:Sz a) (H:Heap) (Q:D→Heap→Prop),Q (.agg (C4 (a.natAbs:Nat))) H→D8 244 [.agg (C4 a),.agg [.bool false,.nilsl]] H Q:=fun a ha H Q hq=>by
   refine V5 (args':=[.agg (C4 a),.agg (C4 0)]) rfl (fun i d d' h1 h2=>?_) (B7I a 0 ha (by decide) H (by rw[show (0:Int).natAbs=0 from rfl,Nat.gcd_zero_right];exact hq))
   match i with
   |0=>cases h1;cases h2;exact .same _
   |1=>cases h1;cases h2;exact A9W
   |i+2=>cases h1
  repeat' (first|with_reducible apply D1Z|simp only[go_sem,seval,e6,A3 _ h8]|simp(disch:=omega) only[A4,A9]|simp(disch:=first|omega|grind) only[B3]|(intro u;try simp only[A6]at u)|omega)
  refine C2 [4,6,7,15,16,17,22,23] (fun(j:Nat)=>[(24,.int .i64 j)]) (fun(j:Nat)=>B6.set M (.box (gB j (A3Y r.c j:Nat)))) (fun(j:Nat)=>j≤r.c.length) (fun(j:Nat)=>r.c.length-j) (0) (D1u _) (by simp only[go_sem,seval]) (D20 _) ?_
  ·rintro Ec rfl j hj;by_cases A:j<r.c.length
   ·have U:decide ((j:Int)<r.c.length)=true:=D1b (by omega);have b4:(j:Int)<r.c.length:=by omega
    have c1:=c8 _ (D1n A);have s1:Sz r.c[j]:=H9 (by omega);have gs:=A8N r.c j A;have gj:=d0 j hj;cases j with
    |zero=>
     rw[A43,Nat.gcd_zero_right]at gs;have eg:gB 0 (A3Y r.c 0:Nat)= [.bool false,.nilsl]:=rfl;rw[eg];repeat' (first|with_reducible apply D1Z|simp only[go_sem,seval,U,b4,A9 _ _ A,C0 _ _ A]|simp(disch:=omega) only[A4,A9]|simp(disch:=first|omega|grind) only[B3]|(intro u;try simp only[A6]at u)|with_reducible refine i0 _ s1 _ _ ?_|omega)
     rename_i b9;have h9:=u;clear u;refine C1 (0+1) (by omega) (by omega) (by simp only[go_sem,seval]) ?_;rw[A6A,gs];exact(by simp only[D7,C9,D0]at* <;>grind)
    |succ j=>
     have hg:Sz ((A3Y r.c (j+1):Nat):Int):=H9 (by omega);have k4: ∀(H:Heap) (Q:D→Heap→Prop),Q (.agg (C4 ((A3Y r.c (j+1+1):Nat):Int))) H→D8 244 [.agg (C4 r.c[j+1]),.agg (C4 ((A3Y r.c (j+1):Nat):Int))] H Q:=fun H Q hq=>
      B7I _ _ s1 (by omega) H (by rw[Int.natAbs_natCast,←gs];exact hq)
     rw[A6A];repeat' (first|with_reducible apply D1Z|simp only[go_sem,seval,U,b4,A9 _ _ A,C0 _ _ A]|simp(disch:=omega) only[A4,A9]|simp(disch:=first|omega|grind) only[B3]|(intro u;try simp only[A6]at u)|with_reducible refine k4 _ _ ?_|omega)
     rename_i b9;have h9:=u;clear u;refine C1 (j+1+1) (by omega) (by omega) (by(try simp only[go_sem,seval])<;>(try simp(disch:=omega) [A4])) ?_;rw[A6A];exact(by simp only[D7,C9,D0]at* <;>grind)
   ·have U:decide ((j:Int)<r.c.length)=false:=D1c (by omega);have d3:j=r.c.length:=by omega
    subst d3;rw[A69];have d0:=d0 _ (D1t _);rw[A69]at d0;have hG:NilR (.agg (gB r.c.length (gcdR r.c:Nat))) (.agg (C4 (gcdR r.c:Nat))):=by have:=C4L r.c r.c.length;rwa [A69]at this
    have e8:gcdR r.c≠0→gB r.c.length (gcdR r.c:Nat)=C4 (gcdR r.c:Nat):=fun g=>by
     cases hl:r.c.length with
     |zero=>rw[D1x hl]at g;exact absurd rfl g
     |succ k=>exact A6A _ _
    obtain⟨d1,d2,hd⟩: ∃d1 d2,gB r.c.length (gcdR r.c:Nat)= [d1,d2]:=by
     unfold gB;split
     ·exact⟨_,_,rfl⟩
     ·exact⟨_,_,rfl⟩
    rw[hd]at hG e8⊢;have L:A1J r=if gcdR r.c=0 then(if r.k<0∨(r.eq=true∧0<r.k)then none else some [])else if gcdR r.c=1 then some [r]else if r.eq=true∧r.k.fdiv (gcdR r.c:Nat)*(gcdR r.c:Nat)-r.k≠0 then none else some [⟨r.c.map (Int.fdiv · (gcdR r.c:Nat)),r.k.fdiv (gcdR r.c:Nat),r.eq⟩]:=rfl
    generalize gcdR r.c=g at d0 hG e8 L;have sgn: ∀(s:Int),(g:Int).sign=s→∀(H:Heap) (Q:D→Heap→Prop),Q (.int .i64 s) H→D8 245 [.agg [d1,d2]] H Q:=fun s hs H Q hq=>by
     refine V5 (args':=[.agg (C4 (g:Nat))]) rfl (fun i d d' h1 h2=>?_) (L9 (g:Int) H (by rw[hs];exact hq))
     match i with
     |0=>cases h1;cases h2;exact hG
     |i+1=>cases h1
    have e7:(B6.set M (.box [d1,d2])) M=some (.box [d1,d2]):=A0 _ _;have a4:(B6.set M (.box [d1,d2])) O=some (.box (C5 r)):=by rw[A3 _ h8];exact e6
    have V:Hp.Le (B6.set M (.box [d1,d2])):=c9.trans (A2 g7);generalize B6.set M (.box [d1,d2])=B7 at e7 a4 V⊢;clear e6 g7 c9 i0 hd;have b8:A1J r=none→Q (.tuple [.sl 4 [],.bool false]) H:=fun e=>by
     unfold TS at st;rw[e]at st;rw[st]at h;exact h
    by_cases g0:g=0
    ·rw[if_pos g0]at L;have d4:((g:Nat):Int).sign=0:=by rw[g0];rfl
     have sk:=hr.2.1;by_cases k1:r.k<0
     ·rw[if_pos (.inl k1)]at L;have sg:r.k.sign= -1:=Int.sign_eq_neg_one_of_neg k1;repeat' (first|simp only[go_sem,seval,U,e7,a4,sg]|with_reducible refine sgn 0 d4 _ _ ?_|with_reducible refine L9 r.k _ ?_)
      exact Fin.nilsl 4 _ (D21 (h3.le.trans V) (b8 L))
     ·cases a5:r.eq with
      |true=>
       by_cases k2:0<r.k
       ·rw[if_pos (.inr ⟨a5,k2⟩)]at L;have sg:r.k.sign=1:=Int.sign_eq_one_of_pos k2;repeat' (first|simp only[go_sem,seval,U,e7,a4,sg,a5]|with_reducible refine sgn 0 d4 _ _ ?_|with_reducible refine L9 r.k _ ?_)
        exact Fin.nilsl 4 _ (D21 (h3.le.trans V) (b8 L))
       ·have k0:r.k=0:=by omega
        rw[if_neg (by omega)]at L;have sg:r.k.sign=0:=by rw[k0];rfl
        repeat' (first|simp only[go_sem,seval,U,e7,a4,sg,a5]|simp(disch:=omega) only[A4,A9]|with_reducible refine sgn 0 d4 _ _ ?_|with_reducible refine L9 r.k _ ?_)
        refine C1 (i+1,X,o1) ⟨by simp only[];omega,by simp only[];omega,b1,?_,ho,c4⟩ (by simp only[];omega) (by(try simp only[go_sem,seval])<;>(try simp(disch:=omega) [A4])) (h3.putle.trans V);unfold TS at st;rw[L]at st;simp only[TA];rw[st];simp
      |false=>
       have i1:A1J r=some []:=by rw[L,if_neg (by rw[a5];simp;omega)]
       rcases Int.lt_trichotomy 0 r.k with k2|k2|k2
       ·have sg:r.k.sign=1:=Int.sign_eq_one_of_pos k2;repeat' (first|simp only[go_sem,seval,U,e7,a4,sg,a5]|simp(disch:=omega) only[A4,A9]|with_reducible refine sgn 0 d4 _ _ ?_|with_reducible refine L9 r.k _ ?_)
        refine C1 (i+1,X,o1) ⟨by simp only[];omega,by simp only[];omega,b1,?_,ho,c4⟩ (by simp only[];omega) (by(try simp only[go_sem,seval])<;>(try simp(disch:=omega) [A4])) (h3.putle.trans V);unfold TS at st;rw[i1]at st;simp only[TA];rw[st];simp
       ·have sg:r.k.sign=0:=by rw[←k2];rfl
        repeat' (first|simp only[go_sem,seval,U,e7,a4,sg,a5]|simp(disch:=omega) only[A4,A9]|with_reducible refine sgn 0 d4 _ _ ?_|with_reducible refine L9 r.k _ ?_)
        refine C1 (i+1,X,o1) ⟨by simp only[];omega,by simp only[];omega,b1,?_,ho,c4⟩ (by simp only[];omega) (by(try simp only[go_sem,seval])<;>(try simp(disch:=omega) [A4])) (h3.putle.trans V);unfold TS at st;rw[i1]at st;simp only[TA];rw[st];simp
       ·omega
    ·rw[if_neg g0]at L;have i2:=e8 g0;rw[i2]at e7;clear e8 hG i2 sgn;have gi:((g:Nat):Int)≠0:=by omega
     have gb:((g:Nat):Int).natAbs<4294967296:=by omega
     have sk:=hr.2.1;have s1:Sz r.k:=H9 (by omega);have s2:Sz ((g:Nat):Int):=H9 (by omega);obtain⟨G,f0⟩: ∃G:Int,G=(g:Nat):=⟨_,rfl⟩
     rw[←f0]at L e7 gi gb s2;have sg: ¬G.sign=0:=by rw[Int.sign_eq_zero_iff_zero];exact gi
     by_cases g1:g=1
     ·rw[if_pos g1]at L;have f4:(G.natAbs=1)=True:=by simp[f0,g1]
      repeat' (first|simp only[go_sem,seval,U,e7,a4,sg,f4]|(intro u;try simp only[A6]at u)|with_reducible refine L9 G _ ?_|with_reducible refine B1F G _ ?_)
      rename_i bx;have c0:=u;clear u;refine O3.ap h3 (e1':=Rw C5 (X++[r])) V c0 (by simp) (by rw[D6]) (by simp only[D1e,D1g];omega) (by simp only[D1e,D1g];omega) (by rw[←P1];rfl) fun b' H' h4=>?_;repeat' (first|simp only[go_sem,seval]|simp(disch:=omega) only[A4,A9])
      refine C1 (i+1,X++[r],some b') ⟨by simp only[];omega,by simp only[D1f,D1e,D1g];omega,fun s hs=>?_,?_,by simp,fun b e=>h4.n1 b e⟩ (by simp only[];omega) (by(try simp only[go_sem,seval,D1f,K6])<;>(try simp(disch:=omega) [A4])) h4.putle
      ·rcases D1z.1 hs with q|q
       ·exact b1 s q
       ·simp at q;rw[q];exact hr
      ·unfold TS at st;rw[L]at st;exact st
     ·rw[if_neg g1]at L;have f4:(G.natAbs=1)=False:=by simp;omega
      obtain⟨K,hK⟩: ∃K,K=r.k.fdiv G:=⟨_,rfl⟩
      rw[←hK]at L;have k9:K.natAbs≤r.k.natAbs:=by rw[hK,f0];exact A3Z _ _ g0
      have s3:Sz K:=H9 (by omega);have k5: ∀(H:Heap) (Q:D→Heap→Prop),Q (.agg (C4 K)) H→D8 247 [.agg (C4 r.k),.agg (C4 G)] H Q:=fun H Q hq=>A36 r.k G s1 gi gb H (by rw[←hK];exact hq);repeat' (first|simp only[go_sem,seval,U,e7,a4,sg,f4]|(intro u;try simp only[A6]at u)|with_reducible refine L9 G _ ?_|with_reducible refine B1F G _ ?_|with_reducible refine k5 _ _ ?_)
      rename_i I;have e9:=u;clear u;have i3:M≠I:=fun g=>by rw[g,e9]at e7;cases e7
      have i4:O≠I:=fun g=>by rw[g,e9]at a4;cases a4
      have c7:(B7.set I (.box (C4 K))) M=some (.box (C4 G)):=by rw[A3 _ i3];exact e7
      have c6:(B7.set I (.box (C4 K))) O=some (.box (C5 r)):=by rw[A3 _ i4];exact a4
      have c3:(B7.set I (.box (C4 K))) I=some (.box (C4 K)):=A0 _ _;have J:Hp.Le (B7.set I (.box (C4 K))):=V.trans (A2 e9);generalize B7.set I (.box (C4 K))=B8 at c7 c6 c3 J⊢;clear e7 a4 V e9;have m6:O∈[O,M,I]:=by simp
      have m7:M∈[O,M,I]:=by simp
      have f5:I∈[O,M,I]:=by simp
      have i5:O∈[O,I]:=by simp
      have i9:I∈[O,I]:=by simp
      cases a5:r.eq with
      |true=>
       have a3:=A1j (a:=K) (b:=G) (m:=4611686018427387904) (n:=4294967296) (by omega) (by omega);have s4:Sz (K*G):=H9 (by omega);obtain⟨Z,hZ⟩: ∃Z,Z=K*G-r.k:=⟨_,rfl⟩
       have j4: ∀(H:Heap) (Q:D→Heap→Prop),Q (.agg (C4 Z)) H→D8 249 [.agg (C4 (K*G)),.agg (C4 r.k)] H Q:=fun H Q hq=>A0X (K*G) r.k s4 s1 H (by rw[←hZ];exact hq);refine F7 (fun i'=>if i'=5 then .agg (C4 (K*G))else if i'=8 then .agg (C4 Z)else if i'=9 then .int .i64 Z.sign else .undef) [O,M,I] ?_;by_cases z0:Z=0
       ·have sz:Z.sign=0:=by rw[z0];rfl
        have b2:A1J r=some [⟨r.c.map (Int.fdiv · G),K,r.eq⟩]:=by rw[L,if_neg (by rw[←hZ,z0];simp)]
        rw[sz];repeat' (first|simp only[go_sem,seval,c6,c7,c3,m6,m7,f5,a5]|with_reducible refine S6 (fun H' Q hro hq=>T8 K G s3 s2 H' hq) ?_|with_reducible refine S6 (fun H' Q hro hq=>j4 H' Q hq) ?_|with_reducible refine S6 (fun H' Q hro hq=>L9 Z H' (by rw[sz];exact hq)) ?_)
        obtain⟨C,hC⟩: ∃C,C=r.c.map (Int.fdiv · G):=⟨_,rfl⟩
        have W:C.length=r.c.length:=by rw[hC];simp
        refine F7 (fun i'=>.undef) [O,I] ?_;repeat' (first|with_reducible apply D1Z|simp only[go_sem,seval,c6,c7,c3,i5,i9]|simp(disch:=first|omega|grind) only[B3]|(intro u;try simp only[A6]at u)|omega)
        rename_i bv hv z;have a6:=u;clear u;have nb:z≠bv:=a6.1;have k6:O≠bv∧O≠z:=⟨(fun g=>by rw[g,hv]at c6;cases c6),(fun g=>by rw[g,a6.2]at c6;cases c6)⟩
        have k7:M≠bv∧M≠z:=⟨(fun g=>by rw[g,hv]at c7;cases c7),(fun g=>by rw[g,a6.2]at c7;cases c7)⟩
        rw[show List.replicate r.c.length [D.bool false,.nilsl]=s8 C r.c.length 0 from(A2t _ _).symm];obtain⟨RR,d5⟩: ∃RR:Row,RR=⟨C,K,r.eq⟩:=⟨_,rfl⟩
        refine C2 [4,6,7,12,15,16,17,76,77] (fun(j:Nat)=>[(78,.int .i64 j)]) (fun(j:Nat)=>(B8.set bv (.vec 2 (s8 C r.c.length j))).set z (.box [.vec bv 2 0 r.c.length,.bool (decide (K<0)),.sl 1 (Rw F5 (B4 K.natAbs)),.bool r.eq])) (fun(j:Nat)=>j≤r.c.length) (fun(j:Nat)=>r.c.length-j) (0) (D1u _) (by simp only[go_sem,seval]) (D20 _) ?_;rintro Ec rfl j hj;have f7:=A37 C r.c.length j W hj;by_cases A:j<r.c.length
        ·have a9:decide ((j:Int)<r.c.length)=true:=D1b (by omega);have b4:(j:Int)<r.c.length:=by omega
         have c1:=c8 _ (D1n A);have sj:Sz r.c[j]:=H9 (by omega);have k8:j<C.length:=by omega
         have f8:C[j]=r.c[j].fdiv G:=by simp only[hC,D2P]
         have b0:=A2M C r.c.length j W A (C4 (r.c[j].fdiv G)) (by rw[f8]);have f9:=A1E C r.c.length j j W (D1t _) A;have d6:=A1D C r.c.length j j W (D1t _) A;repeat' (first|with_reducible apply D1Z|simp only[go_sem,seval,a9,b4,A9 _ _ A,C0 _ _ A]|(intro u;try simp only[A6]at u)|omega)
         rename_i T;have b3:=u;clear u;have g2:z∈[M,z,T]:=by simp
         have g3:T∈[M,z,T]:=by simp
         have p7:M∈[M,z,T]:=by simp
         have j1:=b3.1;have j2:=b3.2.1;have j3:M≠T:=fun g=>by have:=b3.2.2;rw[←g,c7]at this;cases this
         have v7:((B8.set bv (.vec 2 (s8 C r.c.length j))).set z (.box [.vec bv 2 0 r.c.length,.bool (decide (K<0)),.sl 1 (Rw F5 (B4 K.natAbs)),.bool r.eq])) M=some (.box (C4 G)):=by rw[A3 _ k7.2,A3 _ k7.1];exact c7
         obtain⟨y,hy⟩: ∃y,y=r.c[j].fdiv G:=⟨_,rfl⟩
         have g4: ∀(H:Heap) (Q:D→Heap→Prop),Q (.agg (C4 y)) H→D8 247 [.agg (C4 r.c[j]),.agg (C4 G)] H Q:=fun H Q hq=>A36 r.c[j] G sj gi gb H (by rw[←hy];exact hq);rw[←hy]at b0;refine F7 (fun i'=>if i'=5 then .agg (C4 y)else .undef) [M,z,T] ?_;repeat' (first|with_reducible apply D1Z|simp only[go_sem,seval,p7,g2,g3,A3 _ j3,A3 _ k7.2,A3 _ k7.1,c7,b4,f7,f9,d6,b0]|simp(disch:=omega) only[A4,A9]|simp(disch:=first|omega|grind) only[B3]|with_reducible refine S6 (fun H' Q hro hq=>g4 H' Q hq) ?_|omega)
         refine C1 (j+1) (by omega) (by omega) (by(try simp only[go_sem,seval])<;>(try simp(disch:=omega) [A4])) ?_;rw[←b0];intro k o hk;have g5:k≠T:=fun g=>by rw[g,A3 _ j1,A3 _ j2,b3.2.2]at hk;cases hk
         by_cases e:k=bv
         ·subst e;rw[A3 _ nb.symm,A0]at hk;rw[A0];exact hk
         ·rw[A3 _ e,A3 _ g5];by_cases a0:k=z
          ·subst a0;rw[A0]at hk⊢;exact hk
          ·rw[A3 _ a0,A3 _ e]at hk⊢;exact hk
        ·have a9:decide ((j:Int)<r.c.length)=false:=D1c (by omega);have d3:j=r.c.length:=by omega
         subst d3;rw[A38 C _ W];repeat' (first|simp only[go_sem,seval,a9,A3 _ k6.1,A3 _ k6.2,c6]|(intro u;try simp only[A6]at u))
         rename_i bx;have c0:=u;clear u;have c2:H.Le B8:=h3.le.trans J;have g6:H bv=none:=c2.none hv;have q1:(H.set bv (.vec 2 (Rw C4 C))).Le (((B8.set bv (.vec 2 (Rw C4 C))).set z (.box [.vec bv 2 0 r.c.length,.bool (decide (K<0)),.sl 1 (Rw F5 (B4 K.natAbs)),.bool r.eq])).set O (.box [.vec bv 2 0 r.c.length,.bool (decide (K<0)),.sl 1 (Rw F5 (B4 K.natAbs)),.bool r.eq])):=by
          intro k o hk;by_cases e:k=bv
          ·subst e;rw[A3 _ k6.1.symm,A3 _ nb.symm,A0];rw[A0]at hk;exact hk
          ·rw[A3 _ e]at hk;have e6:k≠O:=fun g=>by have:=h3.le _ _ hk;rw[g,h6]at this;cases this
           have a0:k≠z:=fun g=>by have:=c2 _ _ hk;rw[g,a6.2]at this;cases this
           rw[A3 _ e6,A3 _ a0,A3 _ e];exact c2 _ _ hk
         have q2:Hp.Le (((B8.set bv (.vec 2 (Rw C4 C))).set z (.box [.vec bv 2 0 r.c.length,.bool (decide (K<0)),.sl 1 (Rw F5 (B4 K.natAbs)),.bool r.eq])).set O (.box [.vec bv 2 0 r.c.length,.bool (decide (K<0)),.sl 1 (Rw F5 (B4 K.natAbs)),.bool r.eq])):=by
          intro k o hk;have e:k≠bv:=fun g=>by have:=J _ _ hk;rw[g,hv]at this;cases this
          have e6:k≠O:=fun g=>by rw[g,h6]at hk;cases hk
          have a0:k≠z:=fun g=>by have:=J _ _ hk;rw[g,a6.2]at this;cases this
          rw[A3 _ e6,A3 _ a0,A3 _ e];exact J _ _ hk
         have d7:=h3.base q1 q2 (fun b g8 g9=>by rw[A3 _ (fun g=>g8 (by rw[g];exact J.none hv))];exact g9);refine O3.ap d7 (e1':=Rw C5 X++[[.vec bv 2 0 r.c.length,.bool (decide (K<0)),.sl 1 (Rw F5 (B4 K.natAbs)),.bool r.eq]]) (D20 _) (by simp only[A6];simp only[c0,ne_eq,not_false_eq_true,and_self]) (by simp) (by rw[D6]) (by simp only[D1e,D1g];omega) (by simp only[D1e,D1g];omega) rfl fun b' H' h4=>?_;clear d7 q1 q2 c0;repeat' (first|simp only[go_sem,seval]|simp(disch:=omega) only[A4,A9])
         have d8:=h4.n1 _ rfl;have d9:bv≠b':=fun g=>by rw[←g,A0]at d8;cases d8
         have eX:Rw C5 (X++[RR])=Rw C5 X++[.sl 2 (Rw C4 C)::[.bool (decide (K<0)),.sl 1 (Rw F5 (B4 K.natAbs)),.bool r.eq]]:=by rw[←P1,d5];rfl
         have e0:=B4D hr b2;rw[←hC,←d5]at e0 b2;refine B6j (i+1,X++[RR],some b') ⟨by simp only[];omega,by simp only[D1f,D1e,D1g];omega,fun s hs=>?_,?_,by simp,fun b e=>?_⟩ (by simp only[];omega) ?_
         ·rcases D1z.1 hs with q|q
          ·exact b1 s q
          ·exact e0.1 s q
         ·unfold TS at st;rw[b2]at st;exact st
         ·have:=h4.n1 _ e;rw[A3 _ (by cases e;exact d9.symm)]at this;exact this
         ·show A1b _ (H.set b' (.vec 4 (Rw C5 (X++[RR])))) _ _;rw[eX];refine A1C (by(try simp only[go_sem,seval,D1f,K6])<;>(try simp(disch:=omega) [A4])) (by rw[D6,W]) h4.a1 (h4.le _ _ (A0 _ _)) d9 (fun k o hk ho=>?_);have e4:k≠bv:=fun g=>by rw[g,g6]at ho;cases ho
          exact⟨e4,h4.le k o (by rw[A3 _ e4];exact ho)⟩
       ·have sz: ¬Z.sign=0:=by rw[Int.sign_eq_zero_iff_zero];exact z0
        have b2:A1J r=none:=by rw[L,if_pos ⟨a5,by rw[←hZ];exact z0⟩]
        repeat' (first|simp only[go_sem,seval,c6,c7,c3,m6,m7,f5,a5,sz]|with_reducible refine S6 (fun H' Q hro hq=>T8 K G s3 s2 H' hq) ?_|with_reducible refine S6 (fun H' Q hro hq=>j4 H' Q hq) ?_|with_reducible refine S6 (fun H' Q hro hq=>L9 Z H' hq) ?_)
        exact Fin.nilsl 4 _ (D21 (h3.le.trans J) (b8 b2))
      |false=>
       have b2:A1J r=some [⟨r.c.map (Int.fdiv · G),K,r.eq⟩]:=by rw[L,if_neg (by rw[a5];simp)]
       refine F7 (fun i'=>.undef) [O,M,I] ?_;repeat' simp only[go_sem,seval,c6,c7,c3,m6,m7,f5,a5]
       obtain⟨C,hC⟩: ∃C,C=r.c.map (Int.fdiv · G):=⟨_,rfl⟩
       have W:C.length=r.c.length:=by rw[hC];simp
       refine F7 (fun i'=>.undef) [O,I] ?_;repeat' (first|with_reducible apply D1Z|simp only[go_sem,seval,c6,c7,c3,i5,i9]|simp(disch:=first|omega|grind) only[B3]|(intro u;try simp only[A6]at u)|omega)
       rename_i bv hv z;have a6:=u;clear u;have nb:z≠bv:=a6.1;have k6:O≠bv∧O≠z:=⟨(fun g=>by rw[g,hv]at c6;cases c6),(fun g=>by rw[g,a6.2]at c6;cases c6)⟩
       have k7:M≠bv∧M≠z:=⟨(fun g=>by rw[g,hv]at c7;cases c7),(fun g=>by rw[g,a6.2]at c7;cases c7)⟩
       rw[show List.replicate r.c.length [D.bool false,.nilsl]=s8 C r.c.length 0 from(A2t _ _).symm];obtain⟨RR,d5⟩: ∃RR:Row,RR=⟨C,K,r.eq⟩:=⟨_,rfl⟩
       refine C2 [4,6,7,12,15,16,17,76,77] (fun(j:Nat)=>[(78,.int .i64 j)]) (fun(j:Nat)=>(B8.set bv (.vec 2 (s8 C r.c.length j))).set z (.box [.vec bv 2 0 r.c.length,.bool (decide (K<0)),.sl 1 (Rw F5 (B4 K.natAbs)),.bool r.eq])) (fun(j:Nat)=>j≤r.c.length) (fun(j:Nat)=>r.c.length-j) (0) (D1u _) (by simp only[go_sem,seval]) (D20 _) ?_;rintro Ec rfl j hj;have f7:=A37 C r.c.length j W hj;by_cases A:j<r.c.length
       ·have a9:decide ((j:Int)<r.c.length)=true:=D1b (by omega);have b4:(j:Int)<r.c.length:=by omega
        have c1:=c8 _ (D1n A);have sj:Sz r.c[j]:=H9 (by omega);have k8:j<C.length:=by omega
        have f8:C[j]=r.c[j].fdiv G:=by simp only[hC,D2P]
        have b0:=A2M C r.c.length j W A (C4 (r.c[j].fdiv G)) (by rw[f8]);have f9:=A1E C r.c.length j j W (D1t _) A;have d6:=A1D C r.c.length j j W (D1t _) A;repeat' (first|with_reducible apply D1Z|simp only[go_sem,seval,a9,b4,A9 _ _ A,C0 _ _ A]|(intro u;try simp only[A6]at u)|omega)
        rename_i T;have b3:=u;clear u;have g2:z∈[M,z,T]:=by simp
        have g3:T∈[M,z,T]:=by simp
        have p7:M∈[M,z,T]:=by simp
        have j1:=b3.1;have j2:=b3.2.1;have j3:M≠T:=fun g=>by have:=b3.2.2;rw[←g,c7]at this;cases this
        have v7:((B8.set bv (.vec 2 (s8 C r.c.length j))).set z (.box [.vec bv 2 0 r.c.length,.bool (decide (K<0)),.sl 1 (Rw F5 (B4 K.natAbs)),.bool r.eq])) M=some (.box (C4 G)):=by rw[A3 _ k7.2,A3 _ k7.1];exact c7
        obtain⟨y,hy⟩: ∃y,y=r.c[j].fdiv G:=⟨_,rfl⟩
        have g4: ∀(H:Heap) (Q:D→Heap→Prop),Q (.agg (C4 y)) H→D8 247 [.agg (C4 r.c[j]),.agg (C4 G)] H Q:=fun H Q hq=>A36 r.c[j] G sj gi gb H (by rw[←hy];exact hq);rw[←hy]at b0;refine F7 (fun i'=>if i'=5 then .agg (C4 y)else .undef) [M,z,T] ?_;repeat' (first|with_reducible apply D1Z|simp only[go_sem,seval,p7,g2,g3,A3 _ j3,A3 _ k7.2,A3 _ k7.1,c7,b4,f7,f9,d6,b0]|simp(disch:=omega) only[A4,A9]|simp(disch:=first|omega|grind) only[B3]|with_reducible refine S6 (fun H' Q hro hq=>g4 H' Q hq) ?_|omega)
        refine C1 (j+1) (by omega) (by omega) (by(try simp only[go_sem,seval])<;>(try simp(disch:=omega) [A4])) ?_;rw[←b0];intro k o hk;have g5:k≠T:=fun g=>by rw[g,A3 _ j1,A3 _ j2,b3.2.2]at hk;cases hk
        by_cases e:k=bv
        ·subst e;rw[A3 _ nb.symm,A0]at hk;rw[A0];exact hk
        ·rw[A3 _ e,A3 _ g5];by_cases a0:k=z
         ·subst a0;rw[A0]at hk⊢;exact hk
         ·rw[A3 _ a0,A3 _ e]at hk⊢;exact hk
       ·have a9:decide ((j:Int)<r.c.length)=false:=D1c (by omega);have d3:j=r.c.length:=by omega
        subst d3;rw[A38 C _ W];repeat' (first|simp only[go_sem,seval,a9,A3 _ k6.1,A3 _ k6.2,c6]|(intro u;try simp only[A6]at u))
        rename_i bx;have c0:=u;clear u;have c2:H.Le B8:=h3.le.trans J;have g6:H bv=none:=c2.none hv;have q1:(H.set bv (.vec 2 (Rw C4 C))).Le (((B8.set bv (.vec 2 (Rw C4 C))).set z (.box [.vec bv 2 0 r.c.length,.bool (decide (K<0)),.sl 1 (Rw F5 (B4 K.natAbs)),.bool r.eq])).set O (.box [.vec bv 2 0 r.c.length,.bool (decide (K<0)),.sl 1 (Rw F5 (B4 K.natAbs)),.bool r.eq])):=by
         intro k o hk;by_cases e:k=bv
         ·subst e;rw[A3 _ k6.1.symm,A3 _ nb.symm,A0];rw[A0]at hk;exact hk
         ·rw[A3 _ e]at hk;have e6:k≠O:=fun g=>by have:=h3.le _ _ hk;rw[g,h6]at this;cases this
          have a0:k≠z:=fun g=>by have:=c2 _ _ hk;rw[g,a6.2]at this;cases this
          rw[A3 _ e6,A3 _ a0,A3 _ e];exact c2 _ _ hk
        have q2:Hp.Le (((B8.set bv (.vec 2 (Rw C4 C))).set z (.box [.vec bv 2 0 r.c.length,.bool (decide (K<0)),.sl 1 (Rw F5 (B4 K.natAbs)),.bool r.eq])).set O (.box [.vec bv 2 0 r.c.length,.bool (decide (K<0)),.sl 1 (Rw F5 (B4 K.natAbs)),.bool r.eq])):=by
         intro k o hk;have e:k≠bv:=fun g=>by have:=J _ _ hk;rw[g,hv]at this;cases this
         have e6:k≠O:=fun g=>by rw[g,h6]at hk;cases hk
         have a0:k≠z:=fun g=>by have:=J _ _ hk;rw[g,a6.2]at this;cases this
         rw[A3 _ e6,A3 _ a0,A3 _ e];exact J _ _ hk
        have d7:=h3.base q1 q2 (fun b g8 g9=>by rw[A3 _ (fun g=>g8 (by rw[g];exact J.none hv))];exact g9);refine O3.ap d7 (e1':=Rw C5 X++[[.vec bv 2 0 r.c.length,.bool (decide (K<0)),.sl 1 (Rw F5 (B4 K.natAbs)),.bool r.eq]]) (D20 _) (by simp only[A6];simp only[c0,ne_eq,not_false_eq_true,and_self]) (by simp) (by rw[D6]) (by simp only[D1e,D1g];omega) (by simp only[D1e,D1g];omega) rfl fun b' H' h4=>?_;clear d7 q1 q2 c0;repeat' (first|simp only[go_sem,seval]|simp(disch:=omega) only[A4,A9])
        have d8:=h4.n1 _ rfl;have d9:bv≠b':=fun g=>by rw[←g,A0]at d8;cases d8
        have eX:Rw C5 (X++[RR])=Rw C5 X++[.sl 2 (Rw C4 C)::[.bool (decide (K<0)),.sl 1 (Rw F5 (B4 K.natAbs)),.bool r.eq]]:=by rw[←P1,d5];rfl
        have e0:=B4D hr b2;rw[←hC,←d5]at e0 b2;refine B6j (i+1,X++[RR],some b') ⟨by simp only[];omega,by simp only[D1f,D1e,D1g];omega,fun s hs=>?_,?_,by simp,fun b e=>?_⟩ (by simp only[];omega) ?_
        ·rcases D1z.1 hs with q|q
         ·exact b1 s q
         ·exact e0.1 s q
        ·unfold TS at st;rw[b2]at st;exact st
        ·have:=h4.n1 _ e;rw[A3 _ (by cases e;exact d9.symm)]at this;exact this
        ·show A1b _ (H.set b' (.vec 4 (Rw C5 (X++[RR])))) _ _;rw[eX];refine A1C (by(try simp only[go_sem,seval,D1f,K6])<;>(try simp(disch:=omega) [A4])) (by rw[D6,W]) h4.a1 (h4.le _ _ (A0 _ _)) d9 (fun k o hk ho=>?_);have e4:k≠bv:=fun g=>by rw[g,g6]at ho;cases ho
         exact⟨e4,h4.le k o (by rw[A3 _ e4];exact ho)⟩
 ·have U:decide ((i:Int)<l.length)=false:=D1c (by omega);unfold TA at hT;rw[List.drop_eq_nil_of_le (by omega)]at hT;have hT:Z1 l=some X:=by rw[hT];simp[Z1]
  rw[hT]at h;repeat' simp only[go_sem,seval,U]
  refine ACalls.out (by rw[D6]) h3.a1 ?_;refine C0Y X n (by omega) hn (fun r hr=>⟨(b1 r hr).1,by have:=(b1 r hr).2.1;omega,fun x hx=>by have:=(b1 r hr).2.2 x hx;omega⟩) _ ?_;generalize hR:A0W [] (pairs1 X)=R;rw[show ((some X).bind fun l=>A0W [] (pairs1 l))=R from hR]at h;cases R with
  |none=>
   simp only[go_sem,seval,B1X];exact D21 (O3.one h3) h
  |some Y=>
   simp only[go_sem,seval,B1X];exact D21 (O3.one h3) h
end Go.Proofs.YtibphjonmikciaaGreatDoor
namespace Go.Av
theorem A51{P:Program}{f v sz n:Nat}{es:List (List D)}{a:D}{ds m:List D}{H:Heap}{Q:D→Heap→Prop}(hb:H v=some (.vec sz es))(hn:n=es.length)(h:ACalls P f (a:: .agg (.sl sz es::ds)::m) (H.del v) Q):ACalls P f (a:: .agg (.vec v sz 0 n::ds)::m) H Q:=by
 subst hn;refine ACalls.shift (args':=a:: .agg (.sl sz es::ds)::m) (fun w vs h1 o hs=>?_) h;have e:=E5 H v;refine⟨by simpa using h1,fun i d p=>?_,hs.less e,fun k hn=>e.held hn⟩
 match i with
 |0=>cases p;exact(o 0 _ rfl).less e
 |1=>
  cases p;have j:=o 1 _ rfl;revert j;generalize vs.getD 1 undef=v1;intro j;cases j with
  |agg _ us q ho hr=>
   refine .agg _ us (by simpa using q) (fun i d' g=>?_) (fun i d' g=>?_)
   ·cases i with
    |zero=>cases g;rfl
    |succ i=>exact ho (i+1) d' g
   ·cases i with
    |zero=>
     cases g;have r:Fz v sz es (.vec v sz 0 es.length) (.sl sz es):=.all;exact r.R hs hb (hr 0 _ rfl)
    |succ i=>exact(hr (i+1) d' g).less e
 |i+2=>exact(o (i+2) d (by simpa using p)).less e
end Go.Av
namespace Go.Lin
open Go Go.Av
theorem B1Y(a b:Int)(hb:0<b):(A1B a b).natAbs≤b.natAbs:=by
 unfold A1B;have e:(0:Int)<b*2:=by omega
 rw[Int.fdiv_eq_ediv_of_nonneg _ (by omega)];have h1:=Int.ediv_mul_le (a*2+b) (show b*2≠0 by omega);have d:=Int.lt_ediv_add_one_mul_self (a*2+b) e;generalize (a*2+b) / (b*2)=q at h1 d;have e1:q*(b*2)=2*(b*q):=by rw[Int.mul_comm q,Int.mul_assoc,Int.mul_comm 2 q,←Int.mul_assoc,Int.mul_comm _ 2]
 have e2:(q+1)*(b*2)=2*(b*q)+b*2:=by rw[Int.add_mul,e1];omega
 rw[e1]at h1;rw[e2]at d;generalize b*q=z at h1 d;omega
end Go.Lin
namespace Go.Proofs.YtibphjonmikciaaGreatDoor
open Go Go.Av Go.Lin
attribute [local irreducible] ACalls Q4
set_option maxHeartbeats 4000000 in
theorem B2x{Q}(l:List Row)(at_ n k:Nat)(hlen:l.length≤10000)(i3:0<n)(hn:n≤1000)(b3:at_<l.length)(hw: ∀r∈l,r.c.length=n)(hr: ∀r∈l,A5w r 4611686018427387904)(c3: ∀r∈l,∀x∈r.c,x.natAbs<1073741824)
  (hk:A4u (l.getD at_ default)=some k) (H:Heap) (h:Q (.sl 4 (Rw C5 (A0D l at_))) H):D8 223 [.sl 4 (Rw C5 l),.int .i64 (at_:Int)] H Q:=by
 refine A8 [(14,.par),(18,.par),(20,.par)] A5 Tryz.func223 rfl ?_;simp only[go_sem,seval,Tryz.results223];have d4:(at_:Int)<l.length:=by omega
 have ge:l.getD at_ default=l[at_]:=by simp[b3]
 have U:=D1n b3;obtain⟨e,he⟩: ∃e,e=l[at_]:=⟨_,rfl⟩
 have J:A0D l at_=if(X4 e.c k).natAbs=1 then(l.take at_++l.drop (at_+1)).map (T7 e k)else((l.take at_++l.drop (at_+1)++[e]).map A28).map (T7 ⟨e.c.map (A1B · ((X4 e.c k).natAbs+1))++[-(((X4 e.c k).natAbs:Int)+1)],A1B e.k ((X4 e.c k).natAbs+1),true⟩ k):=by
  unfold A0D;simp only[];rw[ge,←he];rw[ge,←he]at hk;rw[hk];rfl
 rw[ge,←he]at hk;rw[←he]at U;have f7:=hw e U;have i4:=hr e U;have c4:=c3 e U;have Y:k<e.c.length:=by
  rw[A66]at hk;exact A2x _ _ _ hk
 have d5:(k:Int)<e.c.length:=by omega
 rw[I2 _ _ Y]at J;have f9:M3 (A4u e)=k:=by rw[hk];rfl
 have d6:(l.take at_++l.drop (at_+1)).length≤10000:=by rw[D1f,D2H,D17];omega
 have a4: ∀r∈l.take at_++l.drop (at_+1),r∈l:=fun r hr=>(D1z.1 hr).elim List.mem_of_mem_take List.mem_of_mem_drop
 repeat' (first|with_reducible apply D1Z|simp only[go_sem,seval,d4,A9 _ _ b3,C0 _ _ b3,←he]|simp(disch:=omega) only[A4,A9,I2]|(intro u;try simp only[A6]at u)|omega)
 rename_i b5 h5 bx;have M:=u;clear u;have c5:(H.set b5 (.box (C5 e))) b5=some (.box (C5 e)):=A0 _ _;have W:H.Le (H.set b5 (.box (C5 e))):=A2 h5;have a5:(H.set b5 (.box (C5 e))) bx=none:=by simp only[A6];exact M
 change ACalls _ _ _ ((H.set b5 (.box (C5 e))).set bx _) _;generalize H.set b5 (.box (C5 e))=B5 at c5 W a5⊢;clear h5 M;rw[D1o (show (Rw C5 l).length≤l.length by rw[D6];exact D1t _),A2l,A56];refine V6 (A0 _ _) rfl ?_;rw[E6 a5];refine A8I _ _ (by rw[D1f]at d6;omega) _ ?_;obtain⟨R,hR⟩: ∃R,R=l.take at_++l.drop (at_+1):=⟨_,rfl⟩
 rw[←hR]at J d6 a4⊢;have a0: ∀r∈l,A5w r 18446744073709551616:=fun r hx=>⟨by have:=(hr r hx).1;omega,fun x O=>by have:=(hr r hx).2 x O;omega⟩
 have la: ∀(H:Heap) (Q:D→Heap→Prop),Q (.int .i64 (k:Int)) H→D8 252 [.agg (C5 e)] H Q:=fun H Q hq=>C0R e (by omega) (a0 e U) H (by rw[f9];exact hq);obtain⟨c,hc⟩: ∃c,c=e.c[k]:=⟨_,rfl⟩
 rw[←hc]at J;have i5:c.natAbs<1073741824:=by rw[hc];exact c4 _ (D1n Y)
 by_cases h1:c.natAbs=1
 ·rw[if_pos h1]at J;rw[J]at h;have o1: ∀(H:Heap) (Q:D→Heap→Prop),Q (.bool true) H→D8 246 [.agg (C4 c)] H Q:=fun H Q hq=>B1F c H (by rw[D1b h1];exact hq);repeat' (first|with_reducible apply D1Z|simp only[go_sem,seval,c5,d5,A9 _ _ Y,C0 _ _ Y,←hc]|with_reducible refine la _ _ ?_|with_reducible refine o1 _ _ ?_|omega)
  refine A8E R e k n (by omega) (by omega) (fun r hx=>hw r (a4 r hx)) f7 (by omega) (fun r hx=>a0 r (a4 r hx)) (a0 e U) (fun r hx x O=>by have:=c3 r (a4 r hx) x O;omega) (fun x O=>by have:=c4 x O;omega) _ ?_;repeat' simp only[go_sem,seval]
  exact D21 W h
 ·rw[if_neg h1]at J;have o1: ∀(H:Heap) (Q:D→Heap→Prop),Q (.bool false) H→D8 246 [.agg (C4 c)] H Q:=fun H Q hq=>B1F c H (by rw[D1c h1];exact hq);obtain⟨t,ht⟩: ∃t:Int,t=1:=⟨1,rfl⟩
  obtain⟨m,hm⟩: ∃m:Int,m=(c.natAbs:Nat)+1:=⟨_,rfl⟩
  have g0:((c.natAbs:Nat):Int)+t=m:=by rw[ht,hm]
  rw[←hm]at J;have s1:Sz ((c.natAbs:Nat):Int):=H9 (by omega);have s2:Sz t:=H9 (by omega);have w1: ∀(H:Heap) (Q:D→Heap→Prop),Q (.agg (C4 t)) H→D8 228 [.int .i64 1] H Q:=fun H Q hq=>y9 1 (by omega) (by omega) H (by rw[←ht];exact hq);have p1: ∀(H:Heap) (Q:D→Heap→Prop),Q (.agg (C4 m)) H→D8 255 [.agg (C4 ((c.natAbs:Nat):Int)),.agg (C4 t)] H Q:=fun H Q hq=>A0k _ t s1 s2 H (by rw[g0];exact hq);repeat' (first|with_reducible apply D1Z|simp only[go_sem,seval,c5,d5,A9 _ _ Y,C0 _ _ Y,←hc]|simp(disch:=first|omega|grind) only[B3,F1]|(intro u;try simp only[A6]at u)|with_reducible refine la _ _ ?_|with_reducible refine o1 _ _ ?_|with_reducible refine B7H c _ ?_|with_reducible refine w1 _ _ ?_|with_reducible refine p1 _ _ ?_|omega)
  rename_i G h8 b2 h2 bx;have M:=u;clear u;have e5:=(A2 (o:=.box (C4 m)) h8) _ _ c5;have e8:(B5.set G (.box (C4 m))) G=some (.box (C4 m)):=A0 _ _;have a6:H.Le (B5.set G (.box (C4 m))):=W.trans (A2 h8);have g2:(B5.set G (.box (C4 m))) b2=none:=by simp only[A6];exact h2
  have gx:(B5.set G (.box (C4 m))) bx=none∧bx≠b2:=by simp only[A6];exact⟨⟨M.2.1,M.2.2⟩,M.1⟩
  change ACalls _ _ _ (((B5.set G (.box (C4 m))).set b2 (.vec 4 [C5 e])).set bx (.vec 1 [[.sl 4 (Rw C5 R)],[.vec b2 4 0 1]])) _;generalize B5.set G (.box (C4 m))=B8 at e5 e8 a6 g2 gx⊢;clear h8 h2 M c5 W a5;refine A7Y (b:=b2) (sz:=4) (es:=[C5 e]) (H':=B8.set bx (.vec 1 [[.sl 4 (Rw C5 R)],[.sl 4 [C5 e]]])) (by rw[A3 _ gx.2.symm,A0]) (fun q o' hq=>?_) ?_
  ·by_cases g:q=bx
   ·subst g;rw[A0]at hq;cases hq;refine⟨gx.2,_,A0 _ _,.vec _ _ _ rfl fun i y y' O d7=>?_⟩
    match i with
    |0=>
     cases O;cases d7;exact⟨rfl,fun j d d' X h4=>by rw[X]at h4;cases h4;exact .same _⟩
    |1=>
     cases O;cases d7;refine⟨rfl,fun j d d' X h4=>?_⟩;cases j with
     |zero=>cases X;cases h4;exact .all
     |succ j=>cases X
    |i+2=>cases O
   ·rw[A3 _ g]at hq;have g3:q≠b2:=fun g4=>by rw[g4,g2]at hq;cases hq
    exact⟨g3,o',by rw[A3 _ g,A3 _ g3];exact hq,.same _⟩
  refine V6 (A0 _ _) rfl ?_;rw[E6 gx.1,show ([C5 e]:List (List D))=Rw C5 [e]from rfl];refine A8I R [e] (by simp only[D1e,D1g];omega) _ ?_;obtain⟨L,hL⟩: ∃L,L=R++[e]:=⟨_,rfl⟩
  rw[←hL]at J⊢;have i9:L.length≤10001:=by rw[hL,D1f,D1e,D1g];omega
  have d8: ∀r∈L,r∈l:=fun r hr=>by
   rw[hL]at hr;rcases D1z.1 hr with g|g
   ·exact a4 r g
   ·simp at g;rw[g];exact U
  clear hL gx g2;repeat' simp only[go_sem,seval]
  refine C2 [5,7,8,9,53,54] (fun(p:Nat×Option Nat×Heap)=>[(55,.int .i64 p.1),(10,J8 4 p.1 p.2.1)]) (fun(p:Nat×Option Nat×Heap)=>p.2.2) (fun(p:Nat×Option Nat×Heap)=>p.1≤L.length∧O3 B8 p.2.2 4 (Rw C5 ((L.take p.1).map A28)) [] [] p.2.1 none none) (fun(p:Nat×Option Nat×Heap)=>L.length-p.1) ((0,none,B8)) (⟨D1u _,O3.nil B8 4⟩) (by simp only[go_sem,seval]) (D20 _) ?_;rintro Ec rfl ⟨i,o1,Hp⟩ ⟨hi,X⟩;simp only at hi X;by_cases b4:i<L.length
  ·have c6:decide ((i:Int)<L.length)=true:=D1b (by omega);have j4:(i:Int)<L.length:=by omega
   have g5:=d8 _ (D1n b4);have fs:=A67 A28 L i b4;have fl:=A9Z A28 L i hi;have d9:L[i].c.length=n:=hw _ g5;have g6:L[i].c≠[]:=fun g=>by rw[g]at d9;simp at d9;omega
   repeat' (first|with_reducible apply D1Z|simp only[go_sem,seval,c6,A9 _ _ b4,C0 _ _ b4]|(intro u;try simp only[A6]at u)|with_reducible refine C4K _ g6 (by omega) _ ?_|omega)
   rename_i g7 g8 bx;have M:=u;clear u;have e0:Hp.Le (Hp.set g7 (.box (C5 L[i]))):=A2 g8;refine O3.ap X (e1':=Rw C5 ((L.take (i+1)).map A28)) e0 (by simp only[A6];exact M) (by simp) (by rw[D6,fl]) (by simp only[D1e,D1g];omega) (by simp only[D1e,D1g];omega) (by rw[fs,←P1];rfl) fun b' H' h4=>?_;repeat' (first|simp only[go_sem,seval]|simp(disch:=omega) only[A4,A9,I2])
   refine C1 (i+1,some b',H') ⟨by simp only[];omega,h4⟩ (by simp only[];omega) (by(try simp only[go_sem,seval,K6])<;>(try simp(disch:=omega) [A4])) (D20 _)
  ·have c6:decide ((i:Int)<L.length)=false:=D1c (by omega);have e1:L.take i=L:=D1o (by omega);have e2:i=L.length:=by omega
   rw[e1]at X;have f5:=X.le _ _ e5;have f8:=X.le _ _ e8;repeat' simp only[go_sem,seval,c6]
   obtain⟨C,hC⟩: ∃C,C=e.c.map (A1B · m)++[-m]:=⟨_,rfl⟩
   obtain⟨K,hK⟩: ∃K,K=A1B e.k m:=⟨_,rfl⟩
   rw[←hC,←hK]at J;have T:C.length=e.c.length+1:=by rw[hC,D1f,D2I];rfl
   have b6:0<m:=by omega
   have e4:m<2147483648:=by omega
   have g9:e.k.natAbs≤18446744073709551616:=(a0 e U).1;have k0:K.natAbs≤m.natAbs:=by rw[hK];exact B1Y _ _ b6
   have e6: ∀x∈C,x.natAbs≤4294967296:=fun x hx=>by
    rw[hC]at hx;rcases D1z.1 hx with g|g
    ·simp only[D2X]at g;obtain⟨z,_,rfl⟩:=g;have:=B1Y z m b6;omega
    ·simp at g;omega
   have nr: ∀(H:Heap) (Q:D→Heap→Prop),Q (.agg (C4 K)) H→D8 258 [.agg (C4 e.k),.agg (C4 m)] H Q:=fun H Q hq=>B7J e.k m g9 b6 e4 H (by rw[←hK];exact hq);have m5:b5∈[b5,G]:=by simp
   have m8:G∈[b5,G]:=by simp
   refine F7 (fun i'=>if i'=8 then .agg (C4 K)else .undef) [b5,G] ?_;repeat' (first|with_reducible apply D1Z|simp only[go_sem,seval,f5,f8,m5,m8]|simp(disch:=omega) only[A4,A9,I2]|simp(disch:=first|omega|grind) only[B3,F1]|(intro u;try simp only[A6]at u)|with_reducible refine S6 (fun H' Q hro hq=>nr H' Q hq) ?_|omega)
   rename_i bv hv A;have b7:=u;clear u;have nb:A≠bv:=b7.1;have k5:b5≠bv∧b5≠A:=⟨(fun g=>by rw[g,hv]at f5;cases f5),(fun g=>by rw[g,b7.2]at f5;cases f5)⟩
   have k8:G≠bv∧G≠A:=⟨(fun g=>by rw[g,hv]at f8;cases f8),(fun g=>by rw[g,b7.2]at f8;cases f8)⟩
   rw[show (([D.bool false,.nilsl]::List.replicate e.c.length [D.bool false,.nilsl]):List (List D))=s8 C (e.c.length+1) 0 from(A2t C (e.c.length+1)).symm];refine C2 [5,7,8,10,13,77,78] (fun(j:Nat)=>[(79,.int .i64 j)]) (fun(j:Nat)=>(Hp.set bv (.vec 2 (s8 C (e.c.length+1) j))).set A (.box [.vec bv 2 0 (e.c.length+1),.bool (decide (K<0)),.sl 1 (Rw F5 (B4 K.natAbs)),.bool true])) (fun(j:Nat)=>j≤e.c.length) (fun(j:Nat)=>e.c.length-j) (0) (D1u _) (by simp only[go_sem,seval]) (D20 _) ?_;rintro Ec rfl j hj;have e7:=A37 C (e.c.length+1) j T (by omega);by_cases b9:j<e.c.length
   ·have a9:decide ((j:Int)<e.c.length)=true:=D1b (by omega);have e9:(j:Int)<e.c.length:=by omega
    have b0:(j:Int)<((e.c.length:Nat):Int)+1:=by omega
    have h0:j<C.length:=by omega
    have c7:C[j]=A1B e.c[j] m:=by simp only[hC];rw[List.getElem_append_left (by rw[D2I];exact b9),D2P]
    have c1:=c4 _ (D1n b9);have I:=A2M C (e.c.length+1) j T (by omega) (C4 (A1B e.c[j] m)) (by rw[c7]);have c8:=A1E C (e.c.length+1) j j T (D1t _) (by omega);have b1:=A1D C (e.c.length+1) j j T (D1t _) (by omega);repeat' (first|with_reducible apply D1Z|simp only[go_sem,seval,a9,e9,A9 _ _ b9,C0 _ _ b9]|(intro u;try simp only[A6]at u)|omega)
    rename_i V;have c0:=u;clear u;have c9:A∈[G,A,V]:=by simp
    have h6:V∈[G,A,V]:=by simp
    have p8:G∈[G,A,V]:=by simp
    have j1:=c0.1;have j2:=c0.2.1;have j3:G≠V:=fun g=>by have:=c0.2.2;rw[←g,f8]at this;cases this
    obtain⟨y,O⟩: ∃y,y=A1B e.c[j] m:=⟨_,rfl⟩
    have h7: ∀(H:Heap) (Q:D→Heap→Prop),Q (.agg (C4 y)) H→D8 258 [.agg (C4 e.c[j]),.agg (C4 m)] H Q:=fun H Q hq=>B7J e.c[j] m (by omega) b6 e4 H (by rw[←O];exact hq);rw[←O]at I;refine F7 (fun i'=>if i'=5 then .agg (C4 y)else .undef) [G,A,V] ?_;repeat' (first|with_reducible apply D1Z|simp only[go_sem,seval,p8,c9,h6,A3 _ j3,A3 _ k8.2,A3 _ k8.1,f8,e9,b0,e7,c8,b1,I]|simp(disch:=omega) only[A4,A9,I2]|simp(disch:=first|omega|grind) only[B3,F1]|with_reducible refine S6 (fun H' Q hro hq=>h7 H' Q hq) ?_|omega)
    refine C1 (j+1) (by omega) (by omega) (by(try simp only[go_sem,seval])<;>(try simp(disch:=omega) [A4])) ?_;rw[←I];intro q o hq;have h9:q≠V:=fun g=>by rw[g,A3 _ j1,A3 _ j2,c0.2.2]at hq;cases hq
    by_cases g:q=bv
    ·subst g;rw[A3 _ nb.symm,A0]at hq;rw[A0];exact hq
    ·rw[A3 _ g,A3 _ h9];by_cases f0:q=A
     ·subst f0;rw[A0]at hq⊢;exact hq
     ·rw[A3 _ f0,A3 _ g]at hq⊢;exact hq
   ·have a9:decide ((j:Int)<e.c.length)=false:=D1c (by omega);have i0:j=e.c.length:=by omega
    subst i0;have h0:e.c.length<C.length:=by omega
    have c7:C[e.c.length]= -m:=by simp only[hC];rw[List.getElem_append_right (by rw[D2I];exact D1t _)];simp
    have I:=A2M C (e.c.length+1) e.c.length T (by omega) (C4 (-m)) (by rw[c7]);have c8:=A1E C (e.c.length+1) e.c.length e.c.length T (D1t _) (by omega);have b1:=A1D C (e.c.length+1) e.c.length e.c.length T (D1t _) (by omega);have b0:(e.c.length:Int)<((e.c.length:Nat):Int)+1:=by omega
    obtain⟨y,O⟩: ∃y,y= -m:=⟨_,rfl⟩
    rw[←O,A38 C _ T]at I;have ng: ∀(H:Heap) (Q:D→Heap→Prop),Q (.agg (C4 y)) H→D8 259 [.agg (C4 m)] H Q:=fun H Q hq=>A4x m H (by rw[←O];exact hq);have c9:A∈[b5,G,A]:=by simp
    have p5:b5∈[b5,G,A]:=by simp
    have p8:G∈[b5,G,A]:=by simp
    repeat' simp only[go_sem,seval,a9]
    refine F7 (fun i'=>if i'=6 then .agg (C4 y)else .undef) [b5,G,A] ?_;repeat' (first|with_reducible apply D1Z|simp only[go_sem,seval,p8,c9,p5,A3 _ k8.2,A3 _ k8.1,A3 _ k5.2,A3 _ k5.1,f8,f5,b0,e7,c8,b1,I]|simp(disch:=first|omega|grind) only[B3,F1]|with_reducible refine S6 (fun H' Q hro hq=>ng H' Q hq) ?_|omega)
    have d0:(s8 C (e.c.length+1) e.c.length).set e.c.length ((zB.set 0 (D.bool (decide (y<0)))).set 1 (D.sl 1 (Rw F5 (B4 y.natAbs))))=Rw C4 C:=I;rw[d0];obtain⟨Hf,d2⟩: ∃Hf,Hf=((Hp.set bv (.vec 2 (s8 C (e.c.length+1) e.c.length))).set A (.box [.vec bv 2 0 (e.c.length+1),.bool (decide (K<0)),.sl 1 (Rw F5 (B4 K.natAbs)),.bool true])).set bv (.vec 2 (Rw C4 C)):=⟨_,rfl⟩
    have i1:Hf bv=some (.vec 2 (Rw C4 C)):=by rw[d2];exact A0 _ _
    have f4:Hp.Le Hf:=fun q o hq=>by
     have g1:q≠bv:=fun g=>by rw[g,hv]at hq;cases hq
     have g2:q≠A:=fun g=>by rw[g,b7.2]at hq;cases hq
     rw[d2,A3 _ g1,A3 _ g2,A3 _ g1];exact hq
    rw[←d2];have i2:o1≠some bv:=X.a1.ne hv;have c2: ∀(q:Nat) (o:Go.Av.Obj),Hf q=some o→o1≠some q→L5 Hf o1 q=some o:=fun q o hq hn=>by
     cases o1 with
     |none=>exact hq
     |some c=>show (Hf.del c) q=_;rw[F1 (by rintro rfl;exact hn rfl)];exact hq
    refine ACalls.out (by rw[D6,D2I];exact e2) (X.a1.up f4) ?_;refine A51 (c2 _ _ i1 i2) (by rw[D6,T]) ?_;rw[J]at h;have d3: ∀r∈L.map A28,∃s∈l,r=A28 s:=fun r hr=>by
     obtain⟨s,hs,rfl⟩:=D2X.1 hr;exact⟨s,d8 s hs,rfl⟩
    refine A8E (L.map A28) ⟨C,K,true⟩ k (n+1) (by rw[D2I];omega) (by omega) (fun r hx=>?_) (by show C.length=n+1;omega) (by omega) (fun r hx=>?_) ⟨by show K.natAbs≤_;omega,fun x hx=>by have:=e6 x hx;omega⟩ (fun r hx x O=>?_) e6 _ ?_
    ·obtain⟨s,hs,rfl⟩:=d3 r hx;show (s.c++[0]).length=n+1;rw[D1f,hw s hs];rfl
    ·obtain⟨s,hs,rfl⟩:=d3 r hx;refine⟨(a0 s hs).1,fun x O=>?_⟩;rcases D1z.1 O with g|g
     ·exact(a0 s hs).2 x g
     ·simp at g;rw[g];decide
    ·obtain⟨s,hs,rfl⟩:=d3 r hx;rcases D1z.1 O with g|g
     ·have:=c3 s hs x g;omega
     ·simp at g;rw[g];decide
    ·repeat' simp only[go_sem,seval]
     refine D21 (fun q o hq=>?_) h;have q1:=X.le _ _ (a6 _ _ hq);have q2:q≠bv:=fun g=>by rw[g,hv]at q1;cases q1
     rw[F1 q2];exact c2 _ _ (f4 _ _ q1) (fun g=>by have:=X.n1 _ g;rw[a6 _ _ hq]at this;cases this)
end Go.Proofs.YtibphjonmikciaaGreatDoor
namespace Go.Lin
open Go Go.Av Go.Proofs.YtibphjonmikciaaGreatDoor
structure OkR(n:Nat)(l:List Row):Prop where
 len:l.length≤9999
 nn:n≤1000
 w: ∀r∈l,r.c.length=n
 s: ∀r∈l,A5w r 4611686018427387904
 c: ∀r∈l,∀x∈r.c,x.natAbs<1073741824
theorem A5f{l:List Row}(h:A9Q l=true): ∃n,OkR n l:=by
 unfold A9Q at h;simp only[D1m,D1v]at h;obtain⟨h1,d⟩:=h;cases l with
 |nil=>exact⟨0,by omega,by omega,by simp,by simp,by simp⟩
 |cons r l=>
  simp only[D1m,D1v,D2A]at d;obtain⟨d,e⟩:=d;have key: ∀s∈r::l,s.c.length=r.c.length∧(∀x∈s.c,x.natAbs<1073741824)∧s.k.natAbs<4611686018427387904:=fun s hs=>by
   have:=e s hs;unfold C2T at this;simp only[D1m,beq_iff_eq,D1v,D2A]at this;exact⟨this.1.1,fun x hx=>by have:=this.1.2 x hx;simpa using this,by have:=this.2;simpa using this⟩
  exact⟨r.c.length,by omega,by omega,fun s hs=>(key s hs).1,fun s hs=>⟨by have:=(key s hs).2.2;omega,fun x hx=>by have:=(key s hs).2.1 x hx;omega⟩,fun s hs=>(key s hs).2.1⟩
theorem B1Z(p:Row→Bool): ∀l:List Row,X8 p l=match l.findIdx? p with|none=> -1|some i=>(i:Int)
 | []=>rfl
 |r::l=>by
  rw[X8,B1Z p l,List.findIdx?_cons];by_cases h:p r=true
  ·rw[if_pos h,h];rfl
  ·simp only[h];cases l.findIdx? p with
   |none=>simp
   |some i=>simp;omega
theorem C0Z{p:Row→Bool}{l:List Row}{i:Nat}(h:l.findIdx? p=some i):i<l.length:=(List.findIdx?_eq_some_iff_findIdx_eq.1 h).1
theorem B2y(l:List Row): ∀(n k:Nat),(chT l n).best=some k→k<n
 |0,k,h=>by simp[chT]at h
 |n+1,k,h=>by
  rw[B1M]at h;unfold A34 at h;simp only[]at h;split at h
  ·have:=B2y l n k h;omega
  ·split at h
   ·simp at h;omega
   ·have:=B2y l n k h;omega
theorem B5T{l:List Row}{n k:Nat}(hl:l≠[])(hw: ∀r∈l,r.c.length=n)(h:(j9 l).best=some k):k<n:=by
 have:j9 l=chT l n:=by
  unfold j9 chT;cases l with
  |nil=>exact absurd rfl hl
  |cons r l=>rw[show ((r::l).headD default).c.length=n from hw r (D1k ..)]
 rw[this]at h;exact B2y l n k h
end Go.Lin
namespace Go.Proofs.YtibphjonmikciaaGreatDoor
open Go Go.Av Go.Lin
attribute [local irreducible] ACalls Q4
theorem C4P{Q}(r:Row)(H:Heap)(h:Q (.bool r.eq) H):D8 222 [.agg (C5 r)] H Q:=by
 refine A8 [] A5 Tryz.func222 rfl ?_;simp only[go_sem,seval,Tryz.results222];repeat' intro d
 exact D21 (by simp only[D7,C9,D0]at* <;>grind) h
set_option maxHeartbeats 1000000 in
theorem B2z{Q}(f:Nat)(l:List Row)(b:Bool)(hs:A5c f l=some b)(H:Heap)(h:Q (.bool b) H):D8 196 [.sl 4 (Rw C5 l)] H Q:=by
 refine A8 [] A5 Tryz.func196 rfl ?_;simp only[go_sem,seval,Tryz.results196];repeat' (first|with_reducible apply D1Z|simp only[go_sem,seval]|intro g|omega)
 refine C2 [] (fun(p:Nat×List Row)=>[(0,.sl 4 (Rw C5 p.2))]) (fun(p:Nat×List Row)=>H) (fun(p:Nat×List Row)=>A5c p.1 p.2=some b) (fun(p:Nat×List Row)=>p.1) ((f,l)) (hs) (by simp only[go_sem,seval]) (D20 _) ?_;rintro X rfl ⟨f,l⟩ hs;simp only at hs;cases f with
 |zero=>simp[A5c]at hs
 |succ f=>
  rw[A5c]at hs;split at hs
  case isFalse=>cases hs
  rename_i d;obtain⟨n,ok⟩:=A5f d;have T: ∀(H:Heap) (Q:D→Heap→Prop),Q (B1X (B08 l)) H→D8 220 [.sl 4 (Rw C5 l)] H Q:=fun H Q hq=>C4O l n (by have:=ok.len;omega) (by have:=ok.nn;omega) (fun r hr=>⟨ok.w r hr,ok.s r hr⟩) (fun r hr x hx=>by have:=ok.c r hr x hx;omega) H hq;clear d;repeat' (first|simp only[go_sem,seval]|with_reducible refine T _ _ ?_)
  cases C:B08 l with
  |none=>
   rw[C]at hs;simp only[D2B]at hs;simp only[go_sem,seval,B1X];repeat' (first|with_reducible apply D1Z|simp only[go_sem,seval]|intro g|omega)
   rw[←hs]at h;exact D22 h
  |some m=>
   rw[C]at hs;cases m with
   |nil=>
    simp only[D2B]at hs;simp only[go_sem,seval,B1X];repeat' (first|with_reducible apply D1Z|simp only[go_sem,seval]|intro g|omega)
    rw[←hs]at h;exact D22 h
   |cons r m=>
    simp only[]at hs;split at hs
    case isFalse=>cases hs
    rename_i d;obtain⟨L,q⟩: ∃L,L=r::m:=⟨_,rfl⟩
    have u:L≠[]:=by rw[q];simp
    have y: ¬(L.length:Int)=0:=by rw[q];simp;omega
    rw[←q]at hs d;obtain⟨n,ok⟩:=A5f d;simp only[go_sem,seval,B1X];rw[←q];clear d T C q;have A: ∀(H:Heap) (Q:D→Heap→Prop),Q (.int .i64 (X8 (·.eq) L)) H→D8 221 [.sl 4 (Rw C5 L),.fn (.func 222) [] []] H Q:=fun H Q hq=>B7S (·.eq) L (by have:=ok.len;omega) _ [] [] H (fun a _ Q hq=>C4P a H hq) hq;have o:=B1Z (·.eq) L;cases G:L.findIdx? (·.eq)with
    |some i=>
     rw[G]at hs o;simp only[]at hs o;split at hs
     case isFalse=>cases hs
     rename_i hk;obtain⟨k,hk⟩:=Option.isSome_iff_exists.1 hk;have I:=C0Z G;have J:0<n:=by
      have e:L.getD i default=L[i]:=by simp[I]
      rw[e,A66]at hk;have:=A2x _ _ _ hk;rw[ok.w _ (D1n I)]at this;omega
     have M: ∀(H:Heap) (Q:D→Heap→Prop),Q (.sl 4 (Rw C5 (A0D L i))) H→D8 223 [.sl 4 (Rw C5 L),.int .i64 (i:Int)] H Q:=fun H Q hq=>B2x L i n k (by have:=ok.len;omega) J ok.nn I ok.w ok.s ok.c hk H hq;have U:(0:Int)≤i:=by omega
     rw[o]at A;repeat' (first|with_reducible apply D1Z|simp only[go_sem,seval,y,U]|intro g|with_reducible refine A _ _ ?_|with_reducible refine M _ _ ?_|omega)
     exact C1 (f,A0D L i) hs (Nat.lt_succ_self f) (by simp only[go_sem,seval]) (D20 _)
    |none=>
     rw[G]at hs o;simp only[]at hs o;rw[o]at A;have j: ∀(H:Heap) (Q:D→Heap→Prop),Q (.tuple [.int .i64 (M3 (j9 L).best),.bool (j9 L).sure]) H→D8 224 [.sl 4 (Rw C5 L)] H Q:=fun H Q hq=>B7V L n u (by have:=ok.len;omega) ok.w (by have:=ok.nn;omega) H hq;split at hs
     ·rename_i k cost z;rw[z]at j;have O:k<n:=B5T u ok.w (by rw[z]);have V: ∀(H:Heap) (Q:D→Heap→Prop),Q (.sl 4 (Rw C5 (A2r L k false))) H→D8 226 [.sl 4 (Rw C5 L),.int .i64 (k:Int),.bool false] H Q:=fun H Q hq=>B7d L k n (by have:=ok.len;omega) (by have:=ok.nn;omega) ok.w O (fun r hr=>⟨by have:=(ok.s r hr).1;omega,fun x hx=>by have:=(ok.s r hr).2 x hx;omega⟩) H hq;have W:M3 (some k)=k:=rfl;simp only[W]at j;repeat' (first|with_reducible apply D1Z|simp only[go_sem,seval,y]|intro g|with_reducible refine A _ _ ?_|with_reducible refine j _ _ ?_|with_reducible refine V _ _ ?_|omega)
      exact C1 (f,A2r L k false) hs (Nat.lt_succ_self f) (by simp only[go_sem,seval]) (D20 _)
     ·cases hs
end Go.Proofs.YtibphjonmikciaaGreatDoor
namespace Go.Lin
open Go Go.Av Go.Lexs
theorem A44{s:ByteArray}(h:G5 (B s)=true):s.size≤200:=by
 unfold G5 at h;simp only[D1m,D1v]at h;have:=h.1.1.2;rwa [M8]at this
theorem B7q{l:List LinV}(hv: ∀a∈l,validL a=true):(P7 l).length≤12*l.length∧∀s∈P7 l,s.size≤200:=by
 constructor
 ·have key: ∀(m:List LinV),(∀c∈m,validL c=true)→(P7 m).length≤12*m.length:=by
   intro m
   induction m with
   |nil=>intro _;simp[P7]
   |cons c m d=>
    intro hm;have e:=d (fun x hx=>hm x (D1r _ hx));have h:=(K7 (hm c (D1k ..))).len;unfold P7 at e⊢;rw[List.flatMap_cons,D1f,D2I,D1e];omega
  exact key l hv
 ·intro s hs;unfold P7 at hs;obtain⟨c,hc,hs⟩:=List.mem_flatMap.1 hs;obtain⟨t,g,rfl⟩:=D2X.1 hs;exact A44 (N0 (K7 (hv c hc)).t t g).1
theorem A8O(l:List ByteArray)(s:ByteArray):(G9 l s).length≤l.length+1:=by
 induction l with
 |nil=>simp[G9]
 |cons x l d=>
  unfold G9;split
  ·simp;omega
  ·split<;>simp
theorem i8(m:List ByteArray): ∀l:List ByteArray,(m.foldl G9 l).length≤l.length+m.length:=by
 induction m with
 |nil=>intro l;simp
 |cons s m d=>intro l;have:=d (G9 l s);have:=A8O l s;simp only[List.foldl_cons,D1e];omega
theorem B5U{l:List LinV}{a:LinV}(d:a∈l){t:LTm}(e:t∈a.t):t.v∈A2E l:=by
 rw[A75];exact List.mem_flatMap.2 ⟨a,d,D2X.2 ⟨t,e,rfl⟩⟩
def D0C(P:Program)(can:List LinV→Option Bool)(g:Nat)(cap:List D)(H:Heap):Prop:=∀(more:List LinV) (b:Bool),can more=some b→(∀a∈more,validL a=true)→more.length≤2→∀(H':Heap) (Q:D→Heap→Prop),H.Le H'→Q (.bool b) H'→ACalls P g (.sl 3 (Rw E4 more)::cap) H' Q
theorem A8P{s:ByteArray}(hs:G5 (B s)=true)(c k:Int)(e:Bool)(hc:c≠0)(d:c.natAbs≤1048576)(hk:k.natAbs≤1099511627776):validL ⟨[⟨s,c⟩],k,e⟩=true:=by
 unfold validL X3 A2D J9;simp[hs,hc];omega
theorem A8Q{s:ByteArray}(hs:G5 (B s)=true)(n m:Int)(hn:n.natAbs≤1099511627776)(hm:m.natAbs≤1099511627776): ∀a∈[X5 s n,y8 s m],validL a=true:=fun a d=>by
 rcases D11.1 d with rfl|d
 ·exact A8P hs 1 _ _ (by decide) (by decide) (by omega)
 ·simp at d;rw[d];exact A8P hs (-1) _ _ (by decide) (by decide) hm
theorem B5V(g:List LinV→Option Bool)(s:ByteArray)(f:Nat)(e d:Int):A35 g s (f+1) e d=if e<d then
      match g [X5 s (-((e+d).tdiv 2)),y8 s ((e+d).tdiv 2)]with
      |none=>none
      |some true=>A35 g s f e ((e+d).tdiv 2)
      |some false=>A35 g s f ((e+d).tdiv 2+1) d
    else some e:=rfl
end Go.Lin
namespace Go.Proofs.YtibphjonmikciaaGreatDoor
open Go Go.Av Go.Lexs Go.Lin
attribute [local irreducible] ACalls Q4
theorem C4Q{Q}(l:List LinV)(hlen:l.length≤1000)(hv: ∀a∈l,validL a=true)(b:Bool)(hs:C2U l=some b)(H:Heap)(h:Q (.bool b) H):D8 155 [.sl 3 (Rw E4 l)] H Q:=by
 refine A8 [] A5 Tryz.func155 rfl ?_;simp only[go_sem,seval,Tryz.results155];obtain⟨n1,n2⟩:=B7q hv;have d:A5c 100 (B09 l (A2E l))=some b:=hs;have i:(A2E l).length≤12000:=by have:=i8 (P7 l) [];simp at this;unfold A2E;omega
 repeat' (first|simp only[go_sem,seval]|with_reducible refine C4I l (by omega) (by omega) (fun s hs=>by have:=n2 s hs;omega) (fun c hc=>by have:=(K7 (hv c hc)).len;omega) _ ?_|with_reducible refine C4N l (A2E l) (by omega) (by omega) (B0y l) hv (fun a e t g=>B5U e g) _ ?_|with_reducible refine B2z 100 _ b d _ ?_)
 exact D22 h
theorem A8R{Q}(s:ByteArray)(n:Int)(hn:n.natAbs≤1000000000000000)(H:Heap)(h:Q (.agg (E4 (X5 s n))) H):D8 127 [.str s,.int .i64 n] H Q:=by
 refine A8 [] A5 Tryz.func127 rfl ?_;simp only[go_sem,seval,Tryz.results127];have w:IntKind.i64.wrap (0-n)= -n:=by rw[A4 (by omega) (by omega)];omega
 repeat' (first|simp only[go_sem,seval,w]|simp(disch:=first|omega|grind) only[B3,F1]|(intro d;try simp only[A6]at d))
 rename_i m p q;have e:=d;clear d;refine A2Y (es:=Rw P2 [⟨s,1⟩]) (by rw[A3 _ e.1,A0];rfl) rfl (D21 (fun k o hk=>?_) h);have i:k≠m:=fun g=>by rw[g,p]at hk;cases hk
 have j:k≠q:=fun g=>by rw[g,e.2]at hk;cases hk
 rw[F1 j,A3 _ i,A3 _ j,A3 _ i];exact hk
theorem B1a{Q}(s:ByteArray)(n:Int)(H:Heap)(h:Q (.agg (E4 (y8 s n))) H):D8 128 [.str s,.int .i64 n] H Q:=by
 refine A8 [] A5 Tryz.func128 rfl ?_;simp only[go_sem,seval,Tryz.results128];repeat' (first|simp only[go_sem,seval]|simp(disch:=first|omega|grind) only[B3,F1]|(intro d;try simp only[A6]at d))
 rename_i m p q;have e:=d;clear d;refine A2Y (es:=Rw P2 [⟨s,-1⟩]) (by rw[A3 _ e.1,A0];rfl) rfl (D21 (fun k o hk=>?_) h);have i:k≠m:=fun g=>by rw[g,p]at hk;cases hk
 have j:k≠q:=fun g=>by rw[g,e.2]at hk;cases hk
 rw[F1 j,A3 _ i,A3 _ j,A3 _ i];exact hk
theorem B5W{Q}(i:List LinV→Option Bool)(s:ByteArray)(x:G5 (B s)=true)(g:Nat)(cap:List D)(H:Heap)(r:D0C Tryz.prog i g cap H)(n:Int)(hn:B67 i s=some n)(h:Q (.int .i64 n) H):D8 76 [.str s,.fn (.func g) [] cap] H Q:=by
 refine A8 [] A5 Tryz.func76 rfl ?_;simp only[go_sem,seval,Tryz.results76];unfold B67 at hn;cases z:A35 i s 40 0 2147483647 with
 |none=>rw[z]at hn;cases hn
 |some A=>
  rw[z]at hn;simp only[]at hn;repeat' (first|with_reducible apply D1Z|simp only[go_sem,seval]|simp(disch:=omega) only[A4]|intro j|omega)
  refine C2 [0,1] (fun(p:Nat×Int×Int)=>[(5,.int .i64 p.2.1),(6,.int .i64 p.2.2)]) (fun(p:Nat×Int×Int)=>H) (fun(p:Nat×Int×Int)=>A35 i s p.1 p.2.1 p.2.2=some A∧0≤p.2.1∧p.2.1≤p.2.2∧p.2.2≤2147483647) (fun(p:Nat×Int×Int)=>p.1) ((40,0,2147483647)) (⟨z,by simp,by simp,by simp⟩) (by simp only[go_sem,seval]) (D20 _) ?_;rintro O rfl ⟨f,d,e⟩ ⟨o,C,I,G⟩;simp only at o C I G;cases f with
  |zero=>simp[A35]at o
  |succ f=>
   rw[B5V]at o;by_cases q:d<e
   ·rw[if_pos q]at o;obtain⟨m,hm⟩: ∃m,m=(d+e).tdiv 2:=⟨_,rfl⟩
    have J:d≤m∧m<e:=by
     rw[hm,Int.tdiv_eq_ediv_of_nonneg (by omega)];omega
    rw[←hm]at o;have L:IntKind.i64.wrap m=m:=A4 (by omega) (by omega);have M:IntKind.i64.wrap (0-m)= -m:=by rw[A4 (by omega) (by omega)];omega
    cases hc:i [X5 s (-m),y8 s m]with
    |none=>rw[hc]at o;cases o
    |some b=>
     rw[hc]at o;repeat' (first|simp only[go_sem,seval,q,←hm,L,M,Int.zero_sub]|simp(disch:=omega) only[A4]|intro j|with_reducible refine A8R s (-m) (by omega) _ ?_|with_reducible refine B1a s m _ ?_)
     rename_i bs;have u:=j;clear j;refine V6 (es:=Rw E4 [X5 s (-m),y8 s m]) (A0 _ _) rfl ?_;rw[E6 u];refine r _ b hc (A8Q x _ _ (by omega) (by omega)) (by simp) _ _ (D20 _) ?_;cases b with
     |true=>
      repeat' simp only[go_sem,seval]
      exact C1 (f,d,m) ⟨o,C,by simp only[];omega,by simp only[];omega⟩ (Nat.lt_succ_self f) (by simp only[go_sem,seval]) (D20 _)
     |false=>
      repeat' (first|simp only[go_sem,seval]|simp(disch:=omega) only[A4])
      exact C1 (f,m+1,e) ⟨o,by simp only[];omega,by simp only[];omega,G⟩ (Nat.lt_succ_self f) (by simp only[go_sem,seval]) (D20 _)
   ·rw[if_neg q]at o;simp only[D2B]at o;subst o;by_cases y:0<d
    ·rw[if_pos y]at hn;cases hc:i [X5 s d,y8 s d]with
     |none=>rw[hc]at hn;cases hn
     |some b=>
      rw[hc]at hn;repeat' (first|simp only[go_sem,seval,q,y,Int.zero_sub]|intro j|with_reducible refine A8R s d (by omega) _ ?_|with_reducible refine B1a s d _ ?_)
      rename_i bs;have u:=j;clear j;refine V6 (es:=Rw E4 [X5 s d,y8 s d]) (A0 _ _) rfl ?_;rw[E6 u];refine r _ b hc (A8Q x _ _ (by omega) (by omega)) (by simp) _ _ (D20 _) ?_;cases b with
      |true=>
       simp only[D2B]at hn;subst hn;repeat' simp only[go_sem,seval]
       exact D22 h
      |false=>
       simp only[D2B]at hn;subst hn;repeat' (first|simp only[go_sem,seval,Int.zero_sub]|simp(disch:=omega) only[A4])
       exact D22 h
    ·rw[if_neg y]at hn;simp only[D2B]at hn;subst hn;repeat' simp only[go_sem,seval,q,y]
     exact D22 h
end Go.Proofs.YtibphjonmikciaaGreatDoor
namespace Go.Av
theorem A8S{P:Program}{c:CR}{bl:Bl}{ev:Operand→D}{H:Heap}{j:D→Heap→Prop}{s x:Operand}{t I:Nat}(e g:Nat){sz n m bx:Nat}{ob:Option Nat}{es xs:List (List D)}
  (J:G7 P t=some (e,sz,g)) (L:0<sz) (h1:apT (C6 P I)) (M:apZ (G1 P e) sz) (hs:ev s=J8 sz n ob) (hx:ev x= .vec bx sz 0 m) (o:H bx=some (.vec sz xs)) (hm:m=xs.length) (O:xs≠[])
  (i:OutAt H sz es ob) (hn:n=es.length) (p:bx∉bl.l) (u:ob≠some bx) (y: ∀c,ob=some c→c∉bl.l)
  (z:(n+xs.length)*g≤140737488355328) (A:n+xs.length≤9223372036854775807)
  (h: ∀b',L5 (H.del bx) ob b'=none→j (.vec b' sz 0 (n+xs.length)) ((L5 (H.del bx) ob).set b' (.vec sz (es++xs)))):pOp P c bl ev H j (.call ⟨.builtin .append,#[s,x],#[t,I]⟩):=by
 refine A5U ?_;rw[J,B0v];refine⟨L,h1,M,?_⟩;have C:M6 H sz (ev x)=some xs:=by
  rw[hx];unfold M6;simp[o,hm]
 have ho:T3 bl.l [bx]= [bx]:=by rw[B0w bx [] p,X1]
 have r:xOk bl H [bx]:=B3p bx _ o rfl (.inl p);rw[C,B0u,hs,hx];show paS _ bl [bx] sz g xs H j;cases ob with
 |none=>
  have T:es= []:=i;subst T;subst hn;simp only[D1g,Nat.zero_add,D2l]at z A h;show paS .nilsl bl [bx] sz g xs H j;rw[B97];refine⟨z,A,by cases xs<;>simp_all,r,fun b hb=>?_⟩;rw[ho,A0Q,F6];refine h b ?_;show (H.del bx) b=none;unfold Heap.del;rw[ho]at hb;rcases hb with hb|hb
  ·split<;>simp_all
  ·simp at hb;rw[if_pos hb]
 |some k=>
  have hk:H k=some (.vec sz es):=i;have U:k≠bx:=fun e=>u (by rw[e]);show paS (.vec k sz 0 n) bl [bx] sz g xs H j;rw[B3o,hk,B3n];refine⟨rfl,rfl,rfl,by omega,z,A,.inl (y k rfl),r,fun b' d=>?_⟩;rw[ho,D1o (by omega),A0Q,A0Q,F6];have G:(H.del k).del bx=(H.del bx).del k:=by funext q;simp only[Heap.del];split<;>split<;>rfl
  rw[G];refine h b' ?_;show ((H.del bx).del k) b'=none;rw[ho]at d;simp only[Heap.del];rcases d with d|d
  ·split
   ·rfl
   ·split
    ·rfl
    ·exact d
  ·simp at d;rcases d with d|d
   ·rw[if_pos d]
   ·split
    ·rfl
    ·first|rfl|rw[if_pos d]
end Go.Av
namespace Go.Lin
open Go Go.Av Go.Lexs
structure FI(H:Heap)(b5 bv:Nat)(so:List LinV)(out:List VlV)(ob:Option Nat)(Hp:Heap):Prop where
 le:H.Le Hp
 h5:H b5=none
 hv:H bv=none
 e5:Hp b5=some (.box [.vec bv 3 0 so.length])
 ev:Hp bv=some (.vec 3 (Rw E4 so))
 eo:OutAt Hp 2 (Rw vlC out) ob
 no: ∀b,ob=some b→H b=none
 n5:ob≠some b5
 nv:ob≠some bv
end Go.Lin
namespace Go.Proofs.YtibphjonmikciaaGreatDoor
open Go Go.Av Go.Lexs Go.Lin
attribute [local irreducible] ACalls Q4
end Go.Proofs.YtibphjonmikciaaGreatDoor
namespace Go.Av
theorem ACalls.fin{P:Program}{f:Nat}{args:List D}{H:Heap}{Q:D→Heap→Prop}(h:ACalls P f args H (Fin Q)):ACalls P f args H Q:=by
 refine⟨h.1,fun w vs h1 i j=>(h.2 w vs h1 i j).mono fun e w' ⟨v,he,hp⟩=>⟨v,he,?_⟩⟩;obtain⟨d,A,m,o,p,q,g⟩:=hp;unfold Fin at g;obtain⟨r,u,hs,hq⟩:=g;obtain⟨x,y,z⟩:=hs w' v m o;exact⟨u,r,x,y,p,fun k hk hn=>z k (q k hk hn),hq⟩
structure BxI(H:Heap)(bx sz n:Nat)(X:List (List D))(rest:List D)(ob:Option Nat)(Hp:Heap):Prop where
 le:H.Le Hp
 hx:H bx=none
 ex:Hp bx=some (.box (J8 sz n ob::rest))
 eo:OutAt Hp sz X ob
 no: ∀b,ob=some b→H b=none
 nx:ob≠some bx
theorem A8k{H:Heap}{bx:Nat}(h:H bx=none)(sz:Nat)(rest:List D):BxI H bx sz 0 [] rest none (H.set bx (.box (.nilsl::rest))):=
 ⟨A2 h,h,A0 _ _,rfl,by simp,by simp⟩
theorem BxI.up{H Hp H':Heap}{bx sz n:Nat}{X:List (List D)}{rest:List D}{ob:Option Nat}(h:BxI H bx sz n X rest ob Hp)(d:Hp.Le H'):BxI H bx sz n X rest ob H':=
 ⟨h.le.trans d,h.hx,d _ _ h.ex,h.eo.up d,h.no,h.nx⟩
theorem BxI.ap{H Hp H0 H':Heap}{bx sz n m:Nat}{X Y:List (List D)}{rest:List D}{ob:Option Nat}{i:Nat}(h:BxI H bx sz n X rest ob Hp)(d:Hp.Le H0)(j:Apd H0 sz ob Y i H'):BxI H bx sz m Y rest (some i) (H'.set bx (.box (.vec i sz 0 m::rest)))∧H' bx=some (.box (J8 sz n ob::rest)):=by
 have e5:H' bx=some (.box (J8 sz n ob::rest)):=j.2.1 bx _ (d _ _ h.ex) h.nx;have p:i≠bx:=fun e=>by have:=j.1;rw[e,e5]at this;cases this
 have q:H i=none:=by
  rcases j.2.2 with g|g
  ·exact h.le.none (d.none g)
  ·exact h.no _ g
 refine⟨⟨fun k o hk=>?_,h.hx,A0 _ _,?_,fun b e=>by cases e;exact q,fun e=>p (by cases e;rfl)⟩,e5⟩
 ·rw[A3 _ (fun e=>by rw[e,h.hx]at hk;cases hk)];exact j.2.1 k o (d _ _ (h.le _ _ hk)) (fun e=>by have:=h.no _ e;rw[this]at hk;cases hk)
 ·show (H'.set bx _) i=_;rw[A3 _ p];exact j.1
end Go.Av
namespace Go.Proofs.YtibphjonmikciaaGreatDoor
open Go Go.Av Go.Lexs Go.Lin
attribute [local irreducible] ACalls Q4
end Go.Proofs.YtibphjonmikciaaGreatDoor
namespace Go.Lin
open Go Go.Av Go.Lexs
theorem B18{Q:D→Heap→Prop}{ds:List D}{x:D}{H:Heap}{b sz n:Nat}{es:List (List D)}(hb:H b=some (.vec sz es))(hn:n=es.length)(h:Fin Q (.tuple [.agg (.sl sz es::ds),x]) (H.del b)):Fin Q (.tuple [.agg (.vec b sz 0 n::ds),x]) H:=by
 subst hn;refine A5l hb (by simp) (fun i d d' h1 e=>?_) h
 match i with
 |0=>cases h1;cases e;exact .all
 |i+1=>
  simp only[D15]at h1 e;rw[h1]at e;cases e;exact .same _
theorem A45(sz n:Nat)(ob:Option Nat):(D.one.match_1 (fun _=>Bool) (J8 sz n ob) (fun _=>false) (fun _=>false) (fun _=>false) fun _=>true)=true:=by cases ob<;>rfl
theorem F3{H Bs:Heap}{b:Nat}{x:Go.Av.Obj}(d:H.Le Bs)(h:H b=none):H.Le (Bs.set b x):=fun k o hk=>by
 rw[A3 _ (fun e=>by rw[e,h]at hk;cases hk)];exact d _ _ hk
end Go.Lin
namespace Go.Proofs.YtibphjonmikciaaGreatDoor
open Go Go.Av Go.Lexs Go.Lin
attribute [local irreducible] ACalls Q4
end Go.Proofs.YtibphjonmikciaaGreatDoor
namespace Go.Av
theorem A50{P:Program}{f v sz n:Nat}{es:List (List D)}{ds m:List D}{H:Heap}{Q:D→Heap→Prop}(hb:H v=some (.vec sz es))(hn:n=es.length)(h:ACalls P f (.agg (.sl sz es::ds)::m) (H.del v) Q):ACalls P f (.agg (.vec v sz 0 n::ds)::m) H Q:=by
 subst hn;refine ACalls.shift (args':=.agg (.sl sz es::ds)::m) (fun w vs h1 p hs=>?_) h;have g:=E5 H v;refine⟨by simpa using h1,fun i d q=>?_,hs.less g,fun k hn=>g.held hn⟩
 match i with
 |0=>
  cases q;have j:=p 0 _ rfl;revert j;generalize vs.getD 0 undef=v1;intro j;cases j with
  |agg _ us o ho hr=>
   refine .agg _ us (by simpa using o) (fun i d' e=>?_) (fun i d' e=>?_)
   ·cases i with
    |zero=>cases e;rfl
    |succ i=>exact ho (i+1) d' e
   ·cases i with
    |zero=>
     cases e;have r:Fz v sz es (.vec v sz 0 es.length) (.sl sz es):=.all;exact r.R hs hb (hr 0 _ rfl)
    |succ i=>exact(hr (i+1) d' e).less g
 |i+1=>exact(p (i+1) d (by simpa using q)).less g
end Go.Av
namespace Go.Lin
open Go Go.Av Go.Lexs
theorem A5g{a:LinV}(h:validL a=true): ∀t∈a.t,t.c≠0∧t.c.natAbs≤1048576:=fun t d=>by
 have:=(N0 (K7 h).t t d)
 exact⟨this.2.1,by have:=this.2.2;omega⟩
theorem _root_.Go.Av.BxI.fin{H0 H Hp:Heap}{bx sz n d b:Nat}{X:List (List D)}{rest cs:List D}{T:Option TypeId}{x:Go.Av.Obj}(h:BxI H bx sz n X rest (some b) Hp)(g:H0.Le H)(i:H0 d=none)(j:Hp d=some (.box cs T)):(Hp.set d x) b=some (.vec sz X)∧H0.Le ((Hp.set d x).del b):=by
 have hb:Hp b=some (.vec sz X):=h.eo;have m:b≠d:=fun e=>by rw[e,j]at hb;cases hb
 refine⟨by rw[A3 _ m];exact hb,fun k o hk=>?_⟩;have h1:=g _ _ hk;have p:k≠b:=fun e=>by have:=h.no b rfl;rw[←e,h1]at this;cases this
 rw[F1 p,A3 _ (fun e=>by rw[e,i]at hk;cases hk)];exact h.le _ _ h1
theorem _root_.Go.Av.BxI.re{H Hp:Heap}{bx sz n:Nat}{X:List (List D)}{rest:List D}{ob:Option Nat}(h:BxI H bx sz n X rest ob Hp)(d:List D):BxI H bx sz n X d ob (Hp.set bx (.box (J8 sz n ob::d))):=by
 refine⟨fun k o hk=>?_,h.hx,A0 _ _,?_,h.no,h.nx⟩
 ·rw[A3 _ (fun e=>by rw[e,h.hx]at hk;cases hk)];exact h.le _ _ hk
 ·have:=h.eo;cases ob with
  |none=>exact this
  |some b=>
   show (Hp.set bx _) b=_;rw[A3 _ (fun e=>h.nx (by rw[e]))];exact this
theorem A3a{C T:Nat→Heap→Prop}{G:Prop}(h:(∀b H,C b H→T b H)→G)(t: ∀b H,C b H→T b H):G:=h t
end Go.Lin
namespace Go.Proofs.YtibphjonmikciaaGreatDoor
open Go Go.Av Go.Lexs Go.Lin
attribute [local irreducible] ACalls Q4
end Go.Proofs.YtibphjonmikciaaGreatDoor
namespace Go.Lin
open Go Go.Av Go.Lexs
theorem A4E: ∀(l:List ByteArray) (s:ByteArray) (i:Nat) (d:i≤l.length),(∀(k:Nat) (hk:k<l.length),k<i→X2 l[k] s=true)→(∀hk:i<l.length,X2 l[i] s=false)→
  G9 l s=if(∃hk:i<l.length,l[i]=s)then l else l.take i++[s]++l.drop i
 | [],s,i,d,_,_=>by
  have:i=0:=by simpa using d
  subst this;simp[G9]
 |x::l,s,0,_,_,j=>by
  have h:=j (by simp);simp only[D2s]at h;rw[G9,h];by_cases e:x=s
  ·simp[e]
  ·simp[e]
 |x::l,s,i+1,d,h1,j=>by
  have m:=h1 0 (by simp) (by omega);simp only[D2s]at m;rw[G9,if_pos m,A4E l s i (by simpa using d) (fun k hk g=>by have:=h1 (k+1) (by simpa using hk) (by omega);simpa using this) (fun hk=>by have:=j (by simpa using hk);simpa using this)];by_cases e: ∃hk:i<l.length,l[i]=s
  ·rw[if_pos e,if_pos (by obtain⟨a,b⟩:=e;exact⟨by simpa using a,by simpa using b⟩)]
  ·rw[if_neg e,if_neg (fun g=>e (by obtain⟨a,b⟩:=g;exact⟨by simpa using a,by simpa using b⟩))];simp
def nsD:List ByteArray→D
 | []=>.nilsl
 |x::l=>.sl 1 (Rw L7 (x::l))
theorem B7r(l:List ByteArray)(s:ByteArray):nsD (G9 l s)= .sl 1 (Rw L7 (G9 l s)):=by
 cases l with
 |nil=>rfl
 |cons x l=>
  rw[G9];split
  ·rfl
  ·split<;>rfl
theorem A9b(l:List ByteArray):NilR (nsD l) (.sl 1 (Rw L7 l)):=by
 cases l with
 |nil=>exact .nil _
 |cons x l=>exact .same _
@[simp] theorem D05:nsD []= .nilsl:=rfl
end Go.Lin
namespace Go.Proofs.YtibphjonmikciaaGreatDoor
open Go Go.Av Go.Lexs Go.Lin
attribute [local irreducible] ACalls Q4
theorem C4R{Q}(l:List ByteArray)(hl:l.length≤1000000000)(s:ByteArray)(H:Heap)(h1:G9 l s=l→Q (.sl 1 (Rw L7 l)) H)(h: ∀x,H x=none→Q (.vec x 1 0 (G9 l s).length) (H.set x (.vec 1 (Rw L7 (G9 l s))))):D8 90 [.sl 1 (Rw L7 l),.str s] H Q:=by
 refine A8 [(6,.wk),(7,.par)] A5 Tryz.func90 rfl ?_;simp only[go_sem,seval,Tryz.results90];refine C2 [0,1] (fun(i:Nat)=>[(5,.int .i64 i)]) (fun(i:Nat)=>H) (fun(i:Nat)=>i≤l.length∧∀(k:Nat) (hk:k<l.length),k<i→X2 l[k] s=true) (fun(i:Nat)=>l.length-i) (0) (⟨D1u _,fun _ _ h=>by omega⟩) (by simp only[go_sem,seval]) (D20 _) ?_;rintro Ec rfl i ⟨y,o⟩;have r: ∀(d:i<l.length),X2 l[i] s=true→∀(k:Nat) (hk:k<l.length),k<i+1→X2 l[k] s=true:=fun d c k hk W=>(Nat.lt_or_ge k i).elim (fun g=>o k hk g) (fun g=>by have:k=i:=(by omega);subst this;exact c);apply I6 (C:=G9 l s=l.take i++[s]++l.drop i)
 ·intro U;by_cases d:i<l.length
  ·have p:decide ((i:Int)<l.length)=true:=D1b (by omega);have u:(i:Int)<l.length:=by omega
   by_cases c:X2 l[i] s=true
   ·have A:Op.bytesLess l[i].data.toList s.data.toList=true:=c;repeat' (first|with_reducible apply D1Z|simp only[go_sem,seval,p,u,A9 _ _ d,C0 _ _ d,A]|simp(disch:=omega) only[A4,A9,A4E]|omega)
    exact C1 (i+1) ⟨by omega,r d c⟩ (by omega) (by(try simp only[go_sem,seval])<;>(try simp(disch:=omega) [A4])) (by simp only[D7,C9,D0]at* <;>grind)
   ·have c:X2 l[i] s=false:=by simpa using c
    have A:Op.bytesLess l[i].data.toList s.data.toList=false:=c;have e:=A4E l s i y o (fun _=>c);by_cases q:l[i]=s
    ·rw[if_pos ⟨d,q⟩]at e;have I:decide (B l[i]=B s)=true:=D1b (by rw[q]);repeat' (first|with_reducible apply D1Z|simp only[go_sem,seval,p,u,A9 _ _ d,C0 _ _ d,A,I]|omega)
     exact D22 (h1 e)
    ·rw[if_neg (fun g=>q g.2)]at e;have I:decide (B l[i]=B s)=false:=D1c fun g=>q (N7 g);repeat' (first|with_reducible apply D1Z|simp only[go_sem,seval,p,u,A9 _ _ d,C0 _ _ d,A,I]|omega)
     exact F2 [(0,.sl 1 (Rw L7 l)),(1,.str s),(5,.int .i64 i)] H (by simp only[go_sem,seval]) (D20 _) (U e)
  ·have p:decide ((i:Int)<l.length)=false:=D1c (by omega);have e:=A4E l s i y o (fun g=>absurd g (by omega));rw[if_neg (fun g=>absurd g.1 (by omega))]at e;repeat' simp only[go_sem,seval,p]
   exact F2 [(0,.sl 1 (Rw L7 l)),(1,.str s),(5,.int .i64 i)] H (by simp only[go_sem,seval]) (D20 _) (U e)
 intro e;have hm:=Nat.min_eq_left y;repeat' (first|with_reducible apply D1Z|simp only[go_sem,seval,A2l,A56,hm]|(intro j;try simp only[A6]at j)|omega)
 rename_i x8 X z;have V:=j;clear j;rw[E6 X]at V⊢;refine F7 (fun _=>.undef) [] ?_;repeat' (first|simp only[go_sem,seval,A2l,A56]|(intro j;try simp only[A6]at j))
 rename_i J;have G:=j;clear j;have L:(H.set z (.vec 1 (Rw L7 (l.take i)))) J=none:=by rw[A3 _ G.1];exact G.2
 refine A8S 9 16 (n:=i) (m:=1) (bx:=J) (ob:=some z) (es:=Rw L7 (l.take i)) (xs:=[[.str s]]) (by simp only[go_sem,seval]) (by decide) (by simp only[go_sem,seval]) (by simp only[go_sem,seval]) (by simp only[go_sem,seval]) (by simp only[go_sem,seval]) (A0 _ _) rfl (by simp) (by show Heap.set _ J _ z=_;rw[A3 _ G.1.symm];exact A0 _ _) (R2 _ _ y).symm (by simp) (fun e=>G.1 (by injection e with e;exact e.symm)) (by simp) (by simp only[D1e,D1g];omega) (by simp only[D1e,D1g];omega) fun Y M=>?_;rw[E6 L]at M⊢;rw[show L5 (H.set z (.vec 1 (Rw L7 (l.take i)))) (some z)=H from E6 V]at M⊢;repeat' (first|with_reducible apply D1Z|simp only[go_sem,seval,A2l,A56]|omega)
 have O:(Rw L7 (l.take i)++[[D.str s]]).length=i+1:=by rw[D1f,R2 _ _ y];rfl
 refine B42 9 16 (Rw L7 (l.drop i)) (b:=Y) (es:=Rw L7 (l.take i)++[[.str s]]) rfl (by simp only[go_sem,seval]) (by decide) (by simp only[go_sem,seval]) (by simp only[go_sem,seval]) ?_ ?_ rfl M (by simp) ?_ ?_ fun x hx=>?_
 ·simp only[go_sem,seval,O]
 ·simp only[go_sem,seval,List.take_length]
 ·rw[O,D6,D17];omega
 ·rw[O,D6,D17];omega
 ·have hw:Rw L7 (l.take i)++[[D.str s]]++Rw L7 (l.drop i)=Rw L7 (G9 l s):=by rw[e];simp[Rw,L7]
  have T:(Rw L7 (l.take i)++[[D.str s]]).length+(Rw L7 (l.drop i)).length=(G9 l s).length:=by rw[←D1f,hw,D6]
  rw[T,hw];repeat' simp only[go_sem,seval]
  exact D22 (h x hx)
theorem C4S{Q}(l:List ByteArray)(hl:l.length≤1000000000)(s:ByteArray)(H:Heap)(h:Q (.sl 1 (Rw L7 (G9 l s))) H):D8 90 [.sl 1 (Rw L7 l),.str s] H Q:=
 ACalls.fin (C4R l hl s H (fun e=>D22 (by rw[e]at h;exact h)) fun x hx=>Fin.out (ob:=some x) (by rw[D6]) (A0 _ _) (D21 (by show H.Le ((H.set x _).del x);rw[E6 hx];exact D20 _) h))
theorem B4G{Q}(l:List ByteArray)(hl:l.length≤1000000000)(s:ByteArray)(H:Heap)(h:Q (nsD (G9 l s)) H):D8 90 [nsD l,.str s] H Q:=by
 refine V5 (args':=[.sl 1 (Rw L7 l),.str s]) rfl (fun i d d' h1 e=>?_) (C4S l hl s H (by rw[B7r]at h;exact h))
 match i with
 |0=>cases h1;cases e;exact A9b l
 |1=>cases h1;cases e;exact .same _
 |i+2=>cases h1
theorem C0a{Q}(a:LinV)(r:S7 a)(H:Heap)(h:Q (.bool true) H):D8 60 [.agg (E4 a),.agg (E4 a)] H Q:=by
 refine A8 [(6,.par)] A5 Tryz.func60 rfl ?_;simp only[go_sem,seval,Tryz.results60];intro d u e p;simp only[A6]at p;have e2:((H.set d (.box (E4 a))).set e (.box (E4 a))) d=some (.box (E4 a)):=by rw[A3 _ p.1.symm,A0]
 have e3:((H.set d (.box (E4 a))).set e (.box (E4 a))) e=some (.box (E4 a)):=A0 _ _;have m:H.Le ((H.set d (.box (E4 a))).set e (.box (E4 a))):=(A2 u).trans (A2 (by simp only[A6];exact p));generalize (H.set d (.box (E4 a))).set e (.box (E4 a))=Bs at e2 e3 m⊢;have x:d∈[d,e]:=by simp
 have y:e∈[d,e]:=by simp
 have hlen:=r.len;obtain⟨T,K,E⟩:=a;have hlen:T.length≤5864062014639:=hlen;have q:(E==E)=true:=by cases E<;>rfl
 repeat' simp only[go_sem,seval,e2,e3,q]
 refine C2 [2,3,29] (fun(i:Nat)=>[(30,.int .i64 i)]) (fun(i:Nat)=>Bs) (fun(i:Nat)=>i≤T.length) (fun(i:Nat)=>T.length-i) (0) (D1u _) (by simp only[go_sem,seval]) (D20 _) ?_;rintro z rfl i A;by_cases g:i<T.length
 ·have j:decide ((i:Int)<T.length)=true:=D1b (by omega);have o:(i:Int)<T.length:=by omega
  repeat' simp only[go_sem,seval,j,o,A9 _ _ g,C0 _ _ g]
  refine F7 (fun C=>.undef) [d,e] ?_;repeat' (first|with_reducible apply D1Z|simp only[go_sem,seval,j,o,A9 _ _ g,C0 _ _ g,e2,e3,x,y]|simp(disch:=omega) only[A4,A9]|omega)
  exact C1 (i+1) (by omega) (by omega) (by(try simp only[go_sem,seval])<;>(try simp(disch:=omega) [A4])) (by simp only[D7,C9,D0]at* <;>grind)
 ·have j:decide ((i:Int)<T.length)=false:=D1c (by omega);repeat' simp only[go_sem,seval,j]
  exact D21 m h
end Go.Proofs.YtibphjonmikciaaGreatDoor
namespace Go.Lin
open Go Go.Av Go.Lexs
theorem N2(n:Int):Lib.itoa n=(if n<0 then [45]else [])++dec n.natAbs:=by
 unfold Lib.itoa dec;by_cases h:n<0
 ·rw[if_pos h,if_pos h];rfl
 ·rw[if_neg h,if_neg h];have:n.toNat=n.natAbs:=by omega
  rw[this];rfl
theorem A7A(n:Int)(h:n.natAbs<10000000000000000000):(Lib.itoa n).length≤20:=by
 rw[N2,D1f];have:=A1c 18 n.natAbs (by omega);split<;>simp<;>omega
theorem B1b{α :Type}(T:List α)(i:Nat)(h:i<T.length):(T.take i).isEmpty=decide (i=0):=by
 cases T with
 |nil=>simp at h
 |cons x T=>cases i<;>simp
end Go.Lin
namespace Go.Proofs.YtibphjonmikciaaGreatDoor
open Go Go.Av Go.Lexs Go.Lin
attribute [local irreducible] ACalls Q4
set_option maxHeartbeats 1000000 in
theorem B7s{Q}(a:LinV)(fa:S7 a)(H:Heap)(hT:Tabs H)(h:Q (.tuple [.str (if validL a=true then S (E9 a)else S []),.int .i64 (if validL a=true then 0 else 2)]) H):D8 115 [.agg (E4 a)] H Q:=by
 refine A8 [] A5 Tryz.func115 rfl ?_;simp only[go_sem,seval,Tryz.results115];intro b2 g2;have e2:(H.set b2 (.box (E4 a))) b2=some (.box (E4 a)):=A0 _ _;have m:H.Le (H.set b2 (.box (E4 a))):=A2 g2;generalize H.set b2 (.box (E4 a))=Bs at e2 m⊢;have a0:=hT.le m;by_cases c:validL a=true
 ·rw[if_pos c,if_pos c]at h;have hlen:=(K7 c).len;have vt:=A5g c;have nm: ∀t∈a.t,t.v.size≤200:=fun t ht=>A44 ((N0 (K7 c).t t ht).1);repeat' (first|simp only[go_sem,seval,e2,c]|with_reducible refine A9U a fa _ ?_)
  refine C2 [1,12,13] (fun(p:Nat×ByteArray×Heap)=>[(14,.int .i64 p.1),(4,.str p.2.1)]) (fun(p:Nat×ByteArray×Heap)=>p.2.2) (fun(p:Nat×ByteArray×Heap)=>p.1≤a.t.length∧B p.2.1=J4 true (a.t.take p.1)∧p.2.1.size≤1000*p.1∧Bs.Le p.2.2) (fun(p:Nat×ByteArray×Heap)=>a.t.length-p.1) ((0,⟨#[]⟩,Bs)) (⟨D1u _,rfl,D1u _,D20 _⟩) (by simp only[go_sem,seval]) (D20 _) ?_;rintro Ec rfl ⟨i,x,Hp⟩ ⟨hi,q,a4,hp⟩;simp only at hi q a4 hp;by_cases g:i<a.t.length
  ·have j:decide ((i:Int)<a.t.length)=true:=D1b (by omega);have C:(i:Int)<a.t.length:=by omega
   obtain⟨x0,x1⟩:=vt _ (D1n g);have a6:=nm _ (D1n g);have r:=a0.le hp;have hz: ∀b o,Hp b=none→Tabs (Hp.set b o):=fun b o hb=>r.le (A2 hb);have G:(⟨#[45]⟩:ByteArray).size=1:=rfl;have z:(⟨#[43]⟩:ByteArray).size=1:=rfl;have I:(⟨#[42]⟩:ByteArray).size=1:=rfl;have Y:J4 true (a.t.take (i+1))=J4 true (a.t.take i)++R5 (decide (i=0)) a.t[i]:=by rw[D1s g,A5X,B1b _ _ g,Bool.true_and]
   have ws:IntKind.i64.wrap (0-a.t[i].c)= -a.t[i].c:=by rw[A4 (by omega) (by omega)];omega
   have u:=A7A a.t[i].c (by omega);by_cases J:a.t[i].c<0
   ·have u:=A7A (-a.t[i].c) (by omega);by_cases V: -a.t[i].c=1
    ·have W:True:=trivial;repeat' (first|with_reducible apply D1Z|simp only[go_sem,seval,j,C,A9 _ _ g,C0 _ _ g,ws,J,V,W,u]|simp(disch:=omega) only[A4,A9]|intro M|omega)
     have O:a.t[i].c.natAbs=1:=by omega
     have T:Lib.itoa (-a.t[i].c)=dec a.t[i].c.natAbs:=by rw[N2,if_neg (by omega),D2l]<;>(try(congr 1;omega))
     skip
     refine C1 (i+1,x++⟨#[45]⟩++a.t[i].v,_) ⟨by simp only[];omega,?_,?_,hp.trans (A2 (by assumption))⟩ (by simp only[];omega) (by(try simp only[go_sem,seval])<;>(try simp(disch:=omega) [A4])) (D20 _)
     ·simp only[M9,Q7,A0M,q,Y,R5,O,J,T,if_true,if_false];simp
     ·simp only[ByteArray.size_append,J3,G,z,I];omega
    ·have W:True:=trivial;repeat' (first|with_reducible apply D1Z|simp only[go_sem,seval,j,C,A9 _ _ g,C0 _ _ g,ws,J,V,W,u]|simp(disch:=omega) only[A4,A9]|intro M|with_reducible refine A1h _ (by omega) (by omega) _ (hz _ _ (by assumption)) ?_|omega)
     have O: ¬a.t[i].c.natAbs=1:=by omega
     have T:Lib.itoa (-a.t[i].c)=dec a.t[i].c.natAbs:=by rw[N2,if_neg (by omega),D2l]<;>(try(congr 1;omega))
     skip
     refine C1 (i+1,x++⟨#[45]⟩++(S (Lib.itoa (-a.t[i].c))++⟨#[42]⟩)++a.t[i].v,_) ⟨by simp only[];omega,?_,?_,hp.trans (A2 (by assumption))⟩ (by simp only[];omega) (by(try simp only[go_sem,seval])<;>(try simp(disch:=omega) [A4])) (D20 _)
     ·simp only[M9,Q7,A0M,q,Y,R5,O,J,T,if_true,if_false];simp
     ·simp only[ByteArray.size_append,J3,G,z,I];omega
   ·by_cases W:(0:Int)<i
    ·by_cases V:a.t[i].c=1
     ·repeat' (first|with_reducible apply D1Z|simp only[go_sem,seval,j,C,A9 _ _ g,C0 _ _ g,ws,J,V,W,u]|simp(disch:=omega) only[A4,A9]|intro M|omega)
      have O:a.t[i].c.natAbs=1:=by omega
      have T:Lib.itoa a.t[i].c=dec a.t[i].c.natAbs:=by rw[N2,if_neg (by omega),D2l]<;>(try(congr 1;omega))
      have X:decide (i=0)=false:=by simp;omega
      refine C1 (i+1,x++⟨#[43]⟩++a.t[i].v,_) ⟨by simp only[];omega,?_,?_,hp.trans (A2 (by assumption))⟩ (by simp only[];omega) (by(try simp only[go_sem,seval])<;>(try simp(disch:=omega) [A4])) (D20 _)
      ·simp only[M9,Q7,A0M,q,Y,R5,O,J,T,X,if_true,if_false];simp
      ·simp only[ByteArray.size_append,J3,G,z,I];omega
     ·repeat' (first|with_reducible apply D1Z|simp only[go_sem,seval,j,C,A9 _ _ g,C0 _ _ g,ws,J,V,W,u]|simp(disch:=omega) only[A4,A9]|intro M|with_reducible refine A1h _ (by omega) (by omega) _ (hz _ _ (by assumption)) ?_|omega)
      have O: ¬a.t[i].c.natAbs=1:=by omega
      have T:Lib.itoa a.t[i].c=dec a.t[i].c.natAbs:=by rw[N2,if_neg (by omega),D2l]<;>(try(congr 1;omega))
      have X:decide (i=0)=false:=by simp;omega
      refine C1 (i+1,x++⟨#[43]⟩++(S (Lib.itoa a.t[i].c)++⟨#[42]⟩)++a.t[i].v,_) ⟨by simp only[];omega,?_,?_,hp.trans (A2 (by assumption))⟩ (by simp only[];omega) (by(try simp only[go_sem,seval])<;>(try simp(disch:=omega) [A4])) (D20 _)
      ·simp only[M9,Q7,A0M,q,Y,R5,O,J,T,X,if_true,if_false];simp
      ·simp only[ByteArray.size_append,J3,G,z,I];omega
    ·by_cases V:a.t[i].c=1
     ·repeat' (first|with_reducible apply D1Z|simp only[go_sem,seval,j,C,A9 _ _ g,C0 _ _ g,ws,J,V,W,u]|simp(disch:=omega) only[A4,A9]|intro M|omega)
      have O:a.t[i].c.natAbs=1:=by omega
      have T:Lib.itoa a.t[i].c=dec a.t[i].c.natAbs:=by rw[N2,if_neg (by omega),D2l]<;>(try(congr 1;omega))
      have X:decide (i=0)=true:=by simp;omega
      refine C1 (i+1,x++a.t[i].v,_) ⟨by simp only[];omega,?_,?_,hp.trans (A2 (by assumption))⟩ (by simp only[];omega) (by(try simp only[go_sem,seval])<;>(try simp(disch:=omega) [A4])) (D20 _)
      ·simp only[M9,Q7,A0M,q,Y,R5,O,J,T,X,if_true,if_false];simp
      ·simp only[ByteArray.size_append,J3,G,z,I];omega
     ·repeat' (first|with_reducible apply D1Z|simp only[go_sem,seval,j,C,A9 _ _ g,C0 _ _ g,ws,J,V,W,u]|simp(disch:=omega) only[A4,A9]|intro M|with_reducible refine A1h _ (by omega) (by omega) _ (hz _ _ (by assumption)) ?_|omega)
      have O: ¬a.t[i].c.natAbs=1:=by omega
      have T:Lib.itoa a.t[i].c=dec a.t[i].c.natAbs:=by rw[N2,if_neg (by omega),D2l]<;>(try(congr 1;omega))
      have X:decide (i=0)=true:=by simp;omega
      refine C1 (i+1,x++(S (Lib.itoa a.t[i].c)++⟨#[42]⟩)++a.t[i].v,_) ⟨by simp only[];omega,?_,?_,hp.trans (A2 (by assumption))⟩ (by simp only[];omega) (by(try simp only[go_sem,seval])<;>(try simp(disch:=omega) [A4])) (D20 _)
      ·simp only[M9,Q7,A0M,q,Y,R5,O,J,T,X,if_true,if_false];simp
      ·simp only[ByteArray.size_append,J3,G,z,I];omega
  ·have j:decide ((i:Int)<a.t.length)=false:=D1c (by omega);have a5:i=a.t.length:=by omega
   subst a5;have y:=hp _ _ e2;have r:=a0.le hp;rw[List.take_length]at q;have vk:=(K7 c).k;have u:=A7A a.k (by omega);have z:(⟨#[43]⟩:ByteArray).size=1:=rfl;by_cases t0:a.t= []
   ·have U:(a.t.length:Int)=0:=by rw[t0];rfl
    have x0:x=⟨#[]⟩:=N7 (by rw[q,t0];rfl);by_cases d:a.e=true
    ·have d:a.e=true:=d;have A:B (x++S (Lib.itoa a.k)++⟨#[61,48]⟩)=E9 a:=by
      unfold E9 L8 P8;simp[M9,Q7,A0M,q,d,y7,N2,t0]
     have hs:S (E9 a)=x++S (Lib.itoa a.k)++⟨#[61,48]⟩:=N7 (by rw[Q7,A]);rw[hs]at h;repeat' (first|with_reducible apply D1Z|simp only[go_sem,seval,j,y,d,U]|with_reducible refine A1h _ (by omega) (by omega) _ r ?_|omega)
     exact D21 (m.trans hp) h
    ·have d:a.e=false:=by simpa using d
     have A:B (x++S (Lib.itoa a.k)++⟨#[62,61,48]⟩)=E9 a:=by
      unfold E9 L8 P8;simp[M9,Q7,A0M,q,d,y7,N2,t0]
     have hs:S (E9 a)=x++S (Lib.itoa a.k)++⟨#[62,61,48]⟩:=N7 (by rw[Q7,A]);rw[hs]at h;repeat' (first|with_reducible apply D1Z|simp only[go_sem,seval,j,y,d,U]|with_reducible refine A1h _ (by omega) (by omega) _ r ?_|omega)
     exact D21 (m.trans hp) h
   ·have U: ¬(a.t.length:Int)=0:=fun e=>t0 (D1x (by omega));have l1:(0:Int)<a.t.length:=by omega
    have le:a.t.isEmpty=false:=by cases h:a.t with|nil=>exact absurd h t0|cons=>rfl
    by_cases L:a.k=0
    ·by_cases d:a.e=true
     ·have d:a.e=true:=d;have A:B (x++⟨#[61,48]⟩)=E9 a:=by
       unfold E9 L8 P8;simp[M9,Q7,A0M,q,d,y7,N2,L,t0]
      have hs:S (E9 a)=x++⟨#[61,48]⟩:=N7 (by rw[Q7,A]);rw[hs]at h;repeat' (first|with_reducible apply D1Z|simp only[go_sem,seval,j,y,d,U,l1,L]|omega)
      exact D21 (m.trans hp) h
     ·have d:a.e=false:=by simpa using d
      have A:B (x++⟨#[62,61,48]⟩)=E9 a:=by
       unfold E9 L8 P8;simp[M9,Q7,A0M,q,d,y7,N2,L,t0]
      have hs:S (E9 a)=x++⟨#[62,61,48]⟩:=N7 (by rw[Q7,A]);rw[hs]at h;repeat' (first|with_reducible apply D1Z|simp only[go_sem,seval,j,y,d,U,l1,L]|omega)
      exact D21 (m.trans hp) h
    ·by_cases k1:0<a.k
     ·have k2: ¬a.k<0:=by omega
      by_cases d:a.e=true
      ·have d:a.e=true:=d;have A:B (x++⟨#[43]⟩++S (Lib.itoa a.k)++⟨#[61,48]⟩)=E9 a:=by
        unfold E9 L8 P8;simp[M9,Q7,A0M,q,d,y7,N2,L,t0,k2,le]
       have hs:S (E9 a)=x++⟨#[43]⟩++S (Lib.itoa a.k)++⟨#[61,48]⟩:=N7 (by rw[Q7,A]);rw[hs]at h;repeat' (first|with_reducible apply D1Z|simp only[go_sem,seval,j,y,d,U,l1,L,k1]|with_reducible refine A1h _ (by omega) (by omega) _ r ?_|omega)
       exact D21 (m.trans hp) h
      ·have d:a.e=false:=by simpa using d
       have A:B (x++⟨#[43]⟩++S (Lib.itoa a.k)++⟨#[62,61,48]⟩)=E9 a:=by
        unfold E9 L8 P8;simp[M9,Q7,A0M,q,d,y7,N2,L,t0,k2,le]
       have hs:S (E9 a)=x++⟨#[43]⟩++S (Lib.itoa a.k)++⟨#[62,61,48]⟩:=N7 (by rw[Q7,A]);rw[hs]at h;repeat' (first|with_reducible apply D1Z|simp only[go_sem,seval,j,y,d,U,l1,L,k1]|with_reducible refine A1h _ (by omega) (by omega) _ r ?_|omega)
       exact D21 (m.trans hp) h
     ·have k2:a.k<0:=by omega
      by_cases d:a.e=true
      ·have d:a.e=true:=d;have A:B (x++S (Lib.itoa a.k)++⟨#[61,48]⟩)=E9 a:=by
        unfold E9 L8 P8;simp[M9,Q7,A0M,q,d,y7,N2,L,t0,k2,le]
       have hs:S (E9 a)=x++S (Lib.itoa a.k)++⟨#[61,48]⟩:=N7 (by rw[Q7,A]);rw[hs]at h;repeat' (first|with_reducible apply D1Z|simp only[go_sem,seval,j,y,d,U,l1,L,k1]|with_reducible refine A1h _ (by omega) (by omega) _ r ?_|omega)
       exact D21 (m.trans hp) h
      ·have d:a.e=false:=by simpa using d
       have A:B (x++S (Lib.itoa a.k)++⟨#[62,61,48]⟩)=E9 a:=by
        unfold E9 L8 P8;simp[M9,Q7,A0M,q,d,y7,N2,L,t0,k2,le]
       have hs:S (E9 a)=x++S (Lib.itoa a.k)++⟨#[62,61,48]⟩:=N7 (by rw[Q7,A]);rw[hs]at h;repeat' (first|with_reducible apply D1Z|simp only[go_sem,seval,j,y,d,U,l1,L,k1]|with_reducible refine A1h _ (by omega) (by omega) _ r ?_|omega)
       exact D21 (m.trans hp) h
 ·rw[if_neg c,if_neg c]at h;have c:validL a=false:=by simpa using c
  repeat' (first|simp only[go_sem,seval,e2,c]|with_reducible refine A9U a fa _ ?_)
  exact D21 m h
end Go.Proofs.YtibphjonmikciaaGreatDoor
namespace Go.Lin
open Go Go.Av Go.Lexs
theorem B5X(d:Nat)(h:d<10):Utf8.encode (48+(d:Int))=S [UInt8.ofNat (48+d)]:=by
 have key: ∀d:Fin 10,Utf8.encode (48+((d.val:Nat):Int))=S [UInt8.ofNat (48+d.val)]:=by decide+kernel
 exact key ⟨d,h⟩
theorem B7t{l:List LTm}(h: ∀t∈l,G5 (B t.v)=true)(d:l≠[])(f:Bool):J4 f l≠[]:=by
 cases l with
 |nil=>exact absurd rfl d
 |cons t l=>
  intro e;rw[J4]at e;have e1:=(List.append_eq_nil_iff.1 e).1;unfold R5 at e1;have e2:=(List.append_eq_nil_iff.1 (List.append_eq_nil_iff.1 e1).2).2;exact A2o (h t (D1k ..)) e2
end Go.Lin
namespace Go.Proofs.YtibphjonmikciaaGreatDoor
open Go Go.Av Go.Lexs Go.Lin
attribute [local irreducible] ACalls Q4
theorem B1c(n:Nat): ∀{Q} (hn:n<1000000000000000000) (H:Heap) (h:Q (.str (S (dec n))) H),D8 144 [.int .i64 n] H Q:=by
 induction n using Nat.strongRecOn with
 |ind n q=>
 intro Q hn H h;refine A8 [] A5 Tryz.func144 rfl ?_;simp only[go_sem,seval,Tryz.results144];have e: ¬(10:Int)=0:=by decide
 have i:((n:Nat):Int).tmod 10=((n % 10:Nat):Int):=by rw[Int.tmod_eq_emod_of_nonneg (by omega)];omega
 have r:((n:Nat):Int).tdiv 10=((n / 10:Nat):Int):=by rw[Int.tdiv_eq_ediv_of_nonneg (by omega)];omega
 have j:IntKind.i64.wrap (48+((n % 10:Nat):Int))=48+((n % 10:Nat):Int):=A4 (by omega) (by omega);have u:IntKind.i64.wrap ((n / 10:Nat):Int)=((n / 10:Nat):Int):=A4 (by omega) (by omega);have m:IntKind.i32.wrap (48+((n % 10:Nat):Int))=48+((n % 10:Nat):Int):=IntWalk.i32_in _ (by omega);have o:=B5X (n % 10) (by omega);by_cases d:n<10
 ·have g: ¬(10:Int)≤n:=by omega
  rw[A3P d]at h;have p:n % 10=n:=D2a d;rw[p]at i j m o;repeat' (first|with_reducible apply D1Z|simp only[go_sem,seval,e,i,j,m,o,g])
  exact D22 h
 ·have g:(10:Int)≤n:=by omega
  have x:=A1c 17 (n / 10) (by omega);rw[A4r d]at h;have es:S (dec (n / 10))++S [UInt8.ofNat (48+n % 10)]=S (dec (n / 10)++[UInt8.ofNat (48+n % 10)]):=N7 (by rw[M9,Q7,Q7,Q7]);repeat' (first|with_reducible apply D1Z|simp only[go_sem,seval,e,i,r,j,u,m,o,g]|with_reducible refine q (n / 10) (by omega) (by omega) _ ?_|omega)
  rw[es];exact D22 h
theorem A9c{y:ByteArray}{l:List UInt8}(h:B y=l):y.size=l.length:=by rw[←M8,h]
set_option maxHeartbeats 1000000 in
theorem B4H{Q}(a:LinV)(fa:S7 a)(H:Heap)(h:Q (.tuple [.str (if validL a=true then S (E9 a)else S []),.int .i64 (if validL a=true then 0 else 2)]) H):D8 116 [.agg (E4 a)] H Q:=by
 refine A8 [(7,.wk),(11,.wk),(20,.wk),(21,.wk)] A5 Tryz.func116 rfl ?_;simp only[go_sem,seval,Tryz.results116];intro j g2;have e2:(H.set j (.box (E4 a))) j=some (.box (E4 a)):=A0 _ _;have G:H.Le (H.set j (.box (E4 a))):=A2 g2;generalize H.set j (.box (E4 a))=Bs at e2 G⊢;by_cases c:validL a=true
 ·rw[if_pos c,if_pos c]at h;have hlen:=(K7 c).len;have vt:=A5g c;have nb: ∀t∈a.t,G5 (B t.v)=true:=fun t W=>(N0 (K7 c).t t W).1;have nm: ∀t∈a.t,t.v.size≤200:=fun t W=>A44 (nb t W);have b4:(⟨#[45]⟩:ByteArray).size=1:=rfl;have b7:(⟨#[43]⟩:ByteArray).size=1:=rfl;have a4:(⟨#[42]⟩:ByteArray).size=1:=rfl;have z3:(⟨#[62,61,48]⟩:ByteArray).size=3:=rfl;have z2:(⟨#[61,48]⟩:ByteArray).size=2:=rfl;repeat' (first|simp only[go_sem,seval,e2,c]|with_reducible refine A63 a fa _ ?_)
  refine C2 [1,11,12] (fun(p:Nat×ByteArray×Heap)=>[(13,.int .i64 p.1),(4,.str p.2.1)]) (fun(p:Nat×ByteArray×Heap)=>p.2.2) (fun(p:Nat×ByteArray×Heap)=>p.1≤a.t.length∧B p.2.1=J4 true (a.t.take p.1)∧p.2.1.size≤1000*p.1∧Bs.Le p.2.2) (fun(p:Nat×ByteArray×Heap)=>a.t.length-p.1) ((0,⟨#[]⟩,Bs)) (⟨D1u _,rfl,D1u _,D20 _⟩) (by simp only[go_sem,seval]) (D20 _) ?_;rintro Ec rfl ⟨i,x,Hp⟩ ⟨hi,M,a5,hp⟩;simp only at hi M a5 hp;by_cases r:i<a.t.length
  ·have q:decide ((i:Int)<a.t.length)=true:=D1b (by omega);have a6:(i:Int)<a.t.length:=by omega
   obtain⟨x0,x1⟩:=vt _ (D1n r);have b8:=nm _ (D1n r);have tk:J4 true (a.t.take (i+1))=J4 true (a.t.take i)++R5 (decide (i=0)) a.t[i]:=by rw[D1s r,A5X,B1b _ _ r,Bool.true_and]
   obtain⟨y,A⟩: ∃y,B y=B x++(if a.t[i].c<0 then [45]else if decide (i=0)=true then []else [43]):=⟨S _,Q7 _⟩
   have a9:y.size≤x.size+1:=by
    rw[A9c A,D1f,M8];split
    ·simp
    ·split<;>simp
   repeat' (first|with_reducible apply D1Z|simp only[go_sem,seval,q,a6,A9 _ _ r,C0 _ _ r]|intro a0|omega)
   rename_i I;have h6:=a0;clear a0;have X:(Hp.set I (.box (P2 a.t[i]))) I=some (.box (P2 a.t[i])):=A0 _ _;have O:=hp.trans (A2 (o:=.box (P2 a.t[i])) h6);generalize Hp.set I (.box (P2 a.t[i]))=L at X O⊢;apply I6 (C:=True)
   ·intro Y;by_cases q1:a.t[i].c<0
    ·have ey:x++⟨#[45]⟩=y:=N7 (by rw[M9,A,if_pos q1];rfl);refine F2 [(1,.box j 0),(4,.str x),(5,.int .i64 i),(6,.box I 0),(11,.sl 2 (Rw P2 a.t)),(12,.int .i64 a.t.length),(13,.int .i64 i)] L (by simp only[go_sem,seval]) (D20 _) ?_;repeat' (first|with_reducible apply D1Z|simp only[go_sem,seval,X,q1]|omega)
     exact F2 [(1,.box j 0),(4,.str y),(6,.box I 0),(11,.sl 2 (Rw P2 a.t)),(12,.int .i64 a.t.length),(13,.int .i64 i)] L (by simp only[go_sem,seval,ey]) (D20 _) (Y trivial)
    ·by_cases q3:(0:Int)<i
     ·have ey:x++⟨#[43]⟩=y:=N7 (by rw[M9,A,if_neg q1,if_neg (by simp;omega)];rfl);refine F2 [(1,.box j 0),(4,.str x),(5,.int .i64 i),(6,.box I 0),(11,.sl 2 (Rw P2 a.t)),(12,.int .i64 a.t.length),(13,.int .i64 i)] L (by simp only[go_sem,seval]) (D20 _) ?_;repeat' (first|with_reducible apply D1Z|simp only[go_sem,seval,X,q1,q3]|omega)
      exact F2 [(1,.box j 0),(4,.str y),(6,.box I 0),(11,.sl 2 (Rw P2 a.t)),(12,.int .i64 a.t.length),(13,.int .i64 i)] L (by simp only[go_sem,seval,ey]) (D20 _) (Y trivial)
     ·have ey:x=y:=N7 (by rw[A,if_neg q1,if_pos (by simp;omega),D2O]);refine F2 [(1,.box j 0),(4,.str x),(5,.int .i64 i),(6,.box I 0),(11,.sl 2 (Rw P2 a.t)),(12,.int .i64 a.t.length),(13,.int .i64 i)] L (by simp only[go_sem,seval]) (D20 _) ?_;repeat' simp only[go_sem,seval,X,q1,q3]
      exact F2 [(1,.box j 0),(4,.str y),(6,.box I 0),(11,.sl 2 (Rw P2 a.t)),(12,.int .i64 a.t.length),(13,.int .i64 i)] L (by simp only[go_sem,seval,ey]) (D20 _) (Y trivial)
   intro _;have tB:B y++((if a.t[i].c.natAbs=1 then []else dec a.t[i].c.natAbs++[42])++B a.t[i].v)=J4 true (a.t.take (i+1)):=by
    rw[tk,A,M];unfold R5;simp only[D2N]
   have u: ∀(H:Heap) (Q:D→Heap→Prop),Q (.int .i64 ((a.t[i].c.natAbs:Nat):Int)) H→D8 143 [.int .i64 a.t[i].c] H Q:=fun H Q hq=>B69 _ (by omega) (by omega) H hq;obtain⟨m,hm⟩: ∃m,m=a.t[i].c.natAbs:=⟨_,rfl⟩
   rw[←hm]at u tB;by_cases q2:m=1
   ·have T:((m:Nat):Int)=1:=by omega
    rw[if_pos q2,D2l]at tB;repeat' (first|with_reducible apply D1Z|simp only[go_sem,seval,X,T]|simp(disch:=omega) only[A4,A9]|with_reducible refine u _ _ ?_|omega)
    exact C1 (i+1,y++a.t[i].v,L) ⟨by simp only[];omega,by simp only[M9];exact tB,by simp only[ByteArray.size_append];omega,O⟩ (by simp only[];omega) (by(try simp only[go_sem,seval])<;>(try simp(disch:=omega) [A4])) (D20 _)
   ·have T: ¬((m:Nat):Int)=1:=by omega
    have dl:=A1c 18 m (by omega);rw[if_neg q2]at tB;repeat' (first|with_reducible apply D1Z|simp only[go_sem,seval,X,T]|simp(disch:=omega) only[A4,A9]|with_reducible refine u _ _ ?_|with_reducible refine B1c m (by omega) _ ?_|omega)
    refine C1 (i+1,y++(S (dec m)++⟨#[42]⟩)++a.t[i].v,L) ⟨by simp only[];omega,?_,by simp only[ByteArray.size_append,J3,a4];omega,O⟩ (by simp only[];omega) (by(try simp only[go_sem,seval])<;>(try simp(disch:=omega) [A4])) (D20 _);simp only[M9,Q7];rw[←tB];simp[A0M]
  ·have q:decide ((i:Int)<a.t.length)=false:=D1c (by omega);have b0:i=a.t.length:=by omega
   subst b0;have d:=hp _ _ e2;rw[List.take_length]at M;have vk:=(K7 c).k;obtain⟨y,A⟩: ∃y,B y=L8 a:=⟨S _,Q7 _⟩
   obtain⟨m,hm⟩: ∃m,m=a.k.natAbs:=⟨_,rfl⟩
   have dl:=A1c 18 m (by omega);have U:B x= []↔a.t= []:=by
    rw[M];constructor
    ·intro e;by_cases t0:a.t= []
     ·exact t0
     ·exact absurd e (B7t nb t0 true)
    ·intro e;rw[e];rfl
   have a9:y.size≤13000:=by
    rw[A9c A];unfold L8 P8 y7;rw[D1f,←M,M8];split
    ·rw[D1f,←hm];split
     ·simp only[D1e,D1g];omega
     ·split<;>simp only[D1e,D1g]<;>omega
    ·simp only[D1g];omega
   have u: ∀(H:Heap) (Q:D→Heap→Prop),Q (.int .i64 ((m:Nat):Int)) H→D8 143 [.int .i64 a.k] H Q:=fun H Q hq=>B69 _ (by omega) (by omega) H (by rw[←hm];exact hq);apply I6 (C:=True)
   ·intro Y;by_cases k0:a.k≠0∨a.t= []
    ·obtain⟨w,hw⟩: ∃w,B w=B x++(if a.k<0 then [45]else if a.t.isEmpty=true then []else [43]):=⟨S _,Q7 _⟩
     have b9:w.size≤x.size+1:=by
      rw[A9c hw,D1f,M8];split
      ·simp
      ·split<;>simp
     have b1:w++S (dec m)=y:=N7 (by
      rw[M9,Q7,A,hw,M,hm];unfold L8 P8 y7;rw[if_pos k0.symm];simp only[D2N])
     apply I6 (C:=True)
     ·intro hK;by_cases V:a.k<0
      ·have ew:x++⟨#[45]⟩=w:=N7 (by rw[M9,hw,if_pos V];rfl);have J: ¬a.k=0:=by omega
       repeat' (first|with_reducible apply D1Z|simp only[go_sem,seval,q,d,V,J]|omega)
       exact F2 [(1,.box j 0),(4,.str w)] Hp (by simp only[go_sem,seval,ew]) (D20 _) (hK trivial)
      ·by_cases t0:a.t= []
       ·have ew:x=w:=N7 (by rw[hw,if_neg V,if_pos (by rw[t0];rfl),D2O]);have bx:=U.2 t0;by_cases J:a.k=0
        ·repeat' simp only[go_sem,seval,q,d,V,J,bx]
         exact F2 [(1,.box j 0),(4,.str w)] Hp (by simp only[go_sem,seval,ew]) (D20 _) (hK trivial)
        ·repeat' simp only[go_sem,seval,q,d,V,J,bx]
         exact F2 [(1,.box j 0),(4,.str w)] Hp (by simp only[go_sem,seval,ew]) (D20 _) (hK trivial)
       ·have J: ¬a.k=0:=k0.resolve_right t0;have ew:x++⟨#[43]⟩=w:=N7 (by rw[M9,hw,if_neg V,if_neg (by simpa using t0)];rfl);have bx: ¬B x= []:=fun e=>t0 (U.1 e);repeat' (first|with_reducible apply D1Z|simp only[go_sem,seval,q,d,V,J,bx]|omega)
        exact F2 [(1,.box j 0),(4,.str w)] Hp (by simp only[go_sem,seval,ew]) (D20 _) (hK trivial)
     intro _;repeat' (first|with_reducible apply D1Z|simp only[go_sem,seval,d]|with_reducible refine u _ _ ?_|with_reducible refine B1c m (by omega) _ ?_|omega)
     exact F2 [(1,.box j 0),(4,.str y)] Hp (by simp only[go_sem,seval,b1]) (D20 _) (Y trivial)
    ·have J:a.k=0:=by
      by_cases z:a.k=0
      ·exact z
      ·exact absurd (.inl z) k0
     have t0: ¬a.t= []:=fun e=>k0 (.inr e);have bx: ¬B x= []:=fun e=>t0 (U.1 e);have b3:x=y:=N7 (by rw[A,M];unfold L8 P8;rw[if_neg (by rintro(g|g);exact t0 g;exact g J),D2O]);repeat' simp only[go_sem,seval,q,d,J,bx]
     exact F2 [(1,.box j 0),(4,.str y)] Hp (by simp only[go_sem,seval,b3]) (D20 _) (Y trivial)
   intro _;have W:B y++(if a.e=true then [61,48]else [62,61,48])=E9 a:=by rw[A];rfl
   by_cases ae:a.e=true
   ·have hs:S (E9 a)=y++⟨#[61,48]⟩:=N7 (by rw[Q7,M9,←W,if_pos ae];rfl);rw[hs]at h;repeat' (first|with_reducible apply D1Z|simp only[go_sem,seval,d,ae]|omega)
    exact D21 (G.trans hp) h
   ·have hs:S (E9 a)=y++⟨#[62,61,48]⟩:=N7 (by rw[Q7,M9,←W,if_neg ae];rfl);have ae:a.e=false:=by simpa using ae
    rw[hs]at h;repeat' (first|with_reducible apply D1Z|simp only[go_sem,seval,d,ae]|omega)
    exact D21 (G.trans hp) h
 ·rw[if_neg c,if_neg c]at h;have c:validL a=false:=by simpa using c
  repeat' (first|simp only[go_sem,seval,e2,c]|with_reducible refine A63 a fa _ ?_)
  exact D21 G h
end Go.Proofs.YtibphjonmikciaaGreatDoor
namespace Go.Lin
open Go Go.Av Go.Lexs
theorem B7u(l:List UInt8)(c:UInt8)(h:c∈l):Lib.indexByte l c=((l.takeWhile (· != c)).length:Int)∧(l.takeWhile (· != c)).length<l.length:=by
 induction l with
 |nil=>cases h
 |cons b l d=>
  unfold Lib.indexByte;by_cases e:b=c
  ·subst e;simp
  ·have e1:(b==c)=false:=by simpa using e
   have hm:c∈l:=(D11.1 h).resolve_left (fun g=>e g.symm);obtain⟨i,j⟩:=d hm;have e2:(b != c)=true:=by simp[e]
   rw[e1,i,List.takeWhile_cons,if_pos e2];have e3:(((l.takeWhile (· != c)).length:Int)== -1)=false:=by
    simp only[beq_eq_false_iff_ne,ne_eq];omega
   rw[e3];simp only[D1p,if_false,D1e];omega
theorem B7v(l:List UInt8)(c:UInt8)(h:c∉l):Lib.indexByte l c= -1:=by
 induction l with
 |nil=>rfl
 |cons b l d=>
  unfold Lib.indexByte;have e1:(b==c)=false:=by
   simp only[beq_eq_false_iff_ne,ne_eq];rintro rfl;exact h (D1k ..)
  rw[e1,d (fun g=>h (D1r _ g))];rfl
theorem C0b(l:List UInt8)(p:UInt8→Bool):l.take (l.takeWhile p).length=l.takeWhile p:=by
 induction l with
 |nil=>rfl
 |cons b l d=>rw[List.takeWhile_cons];split<;>simp[d]
theorem C0c(l:List UInt8)(p:UInt8→Bool):l.drop (l.takeWhile p).length=l.dropWhile p:=by
 induction l with
 |nil=>rfl
 |cons b l d=>rw[List.takeWhile_cons,List.dropWhile_cons];split<;>simp[d]
theorem A4F{l c n:List UInt8}(h:Y7 l=some (c,n)):Lib.indexByte l 42=(c.length:Int)∧c.length<l.length∧l.take c.length=c∧l.drop (c.length+1)=n:=by
 unfold Y7 at h;split at h
 ·rename_i hm;injection h with h
  have h1:l.takeWhile (· != 42)=c:=congrArg Prod.fst h;have i:(l.dropWhile (· != 42)).drop 1=n:=congrArg Prod.snd h;obtain⟨e,g⟩:=B7u l 42 hm;have t:=C0b l (· != 42);have d:=C0c l (· != 42);rw[h1]at e g t d;refine⟨e,g,t,?_⟩;rw[←i,←d,D2j]
 ·cases h
theorem B7w{l:List UInt8}(h:Y7 l=none):Lib.indexByte l 42= -1:=by
 unfold Y7 at h;split at h
 ·cases h
 ·rename_i hm;exact B7v l 42 hm
end Go.Lin
namespace Go.Proofs.YtibphjonmikciaaGreatDoor
open Go Go.Av Go.RowKit Go.Lexs Go.Lin
attribute [local irreducible] ACalls Q4
theorem B4I{Q}(s:ByteArray)(H:Heap)(h:Q (.int .i64 (Lib.indexByte (B s) 42)) H):D8 236 [.str s,.str ⟨#[42]⟩] H Q:=
 H7 (by kernel_rfl) (fun w vs hl hr hs=>by
  obtain⟨a,b,rfl,d,hb⟩:=m0 hl hr;rw[d.str_inv,hb.str_inv];refine(Tryz.stringslite_Index_one s 42 w).mono fun e w' ⟨he,hw⟩=>?_;subst hw;exact⟨_,he,Below.refl _ _,.int _ _⟩) h
theorem C4T{Q}(s:ByteArray)(c n:List UInt8)(hc:Y7 (B s)=some (c,n))(hsz:s.size≤1000000000000)(H:Heap)(h:Q (.tuple [.str (S c),.str (S n),.bool true]) H):D8 216 [.str s,.str ⟨#[42]⟩] H Q:=by
 refine A8 [] A5 Tryz.func216 rfl ?_;simp only[go_sem,seval,Tryz.results216];obtain⟨h1,o,i,j⟩:=A4F hc;have hl:=M8 s;have d:((⟨#[42]⟩:ByteArray).size:Int)=1:=rfl;have hw:IntKind.i64.wrap ((c.length:Int)+1)=(c.length:Int)+1:=A4 (by omega) (by omega);have e:(0:Int)≤(c.length:Int)+1:=by omega
 have hk:(c.length:Int)≤s.size:=by omega
 have g:(c.length:Int)+1≤s.size:=by omega
 repeat' (first|with_reducible apply D1Z|simp only[go_sem,seval,h1,d,hw,hk,g,e]|intro m|with_reducible refine B4I s _ ?_|omega)
 rw[i,j];exact D22 h
theorem C4U{Q}(s:ByteArray)(c n:List UInt8)(hc:Y7 (B s)=some (c,n))(hsz:s.size≤1000000000000)(H:Heap)(h:Q (.tuple [.str (S c),.str (S n),.bool true]) H):D8 187 [.str s,.str ⟨#[42]⟩] H Q:=by
 refine A8 [] A5 Tryz.func187 rfl ?_;simp only[go_sem,seval,Tryz.results187];repeat' (first|simp only[go_sem,seval]|with_reducible refine C4T s c n hc hsz _ ?_)
 exact D22 h
theorem C4V{Q}(s:ByteArray)(hc:Y7 (B s)=none)(H:Heap)(h:Q (.tuple [.str s,.str ⟨#[]⟩,.bool false]) H):D8 216 [.str s,.str ⟨#[42]⟩] H Q:=by
 refine A8 [] A5 Tryz.func216 rfl ?_;simp only[go_sem,seval,Tryz.results216];have h1:=B7w hc;repeat' (first|simp only[go_sem,seval,h1]|with_reducible refine B4I s _ ?_)
 exact D22 h
theorem A9d{Q}(s:ByteArray)(hc:Y7 (B s)=none)(H:Heap)(h:Q (.tuple [.str s,.str ⟨#[]⟩,.bool false]) H):D8 187 [.str s,.str ⟨#[42]⟩] H Q:=by
 refine A8 [] A5 Tryz.func187 rfl ?_;simp only[go_sem,seval,Tryz.results187];repeat' (first|simp only[go_sem,seval]|with_reducible refine C4V s hc _ ?_)
 exact D22 h
theorem C0d{Q}(s:ByteArray)(hsz:s.size≤1000000000000)(v:Int)(hv:Lib.atoiAll (B s)= .ok v)(H:Heap)(h:Q (.tuple [.int .i64 v,.nilif]) H):D8 188 [.str s] H Q:=
 H7 (by kernel_rfl) (fun w vs hl hr hs=>by
  obtain⟨a,rfl,j⟩:=A2C hl hr;rw[j.str_inv];refine(Tryz.strconv_Atoi_ok s (by omega) v hv w).mono fun e w' ⟨he,hw⟩=>?_;have m:Below w.heap.size w w':=by
   rcases hw with rfl|⟨t,rfl⟩
   ·exact Below.refl _ _
   ·exact B0r _ _ _
  exact⟨_,he,m,.tuple _ _ rfl fun i d g=>(match i,g with|0,g=>by simp at g;subst g;exact .int _ _|1,g=>by simp at g;subst g;exact .nilif|i+2,g=>by simp at g)⟩) h
theorem B1d{w:World}{H:Heap}{g t:Nat}(hs:Sat H w)(h:H g=some (.ro [.iface t .undef])): ∃v,w.cell? ⟨g,0,none⟩=some (.iface t v):=by
 obtain⟨c,T,m,h1,i,j⟩:=hs g _ h;have d:=(j 0 _ rfl).2;have o:c.size=1:=i;have e:w.cell? ⟨g,0,none⟩=some (c.getD 0 Go.undef):=by
  rw[U1 h1];have:0<c.size:=by omega
  simp[this]
 generalize c.getD 0 Go.undef=x at d e;cases d with
 |iface _ _ v hr=>exact⟨v,e⟩
theorem C0e{Q}(s:ByteArray)(hsz:s.size≤1000000000000)(hv: ∀v,Lib.atoiAll (B s)≠ .ok v)(H:Heap)(p:Tabs H)(h: ∀n t,Q (.tuple [.int .i64 n,.iface t .undef]) H):D8 188 [.str s] H Q:=by
 have q: ∀(w:World) (n:Int) (t:Nat) (v:Value),R w H (.tuple [.int .i64 n,.iface t .undef]) (.tuple #[.int .i64 n,.iface t v]):=fun w n t v=>
  .tuple _ _ rfl fun i d g=>(match i,g with|0,g=>by simp at g;subst g;exact .int _ _|1,g=>by simp at g;subst g;exact .iface _ _ _ (.undef _)|i+2,g=>by simp at g)
 cases hc:Lib.atoiAll (B s)with
 |ok v=>exact absurd hc (hv v)
 |range=>
  refine H7 (r:=.tuple [.int .i64 (Lib.atoiSat (B s)),.iface 266 .undef]) (by kernel_rfl) (fun w vs hl hr hs=>?_) (h _ _);obtain⟨a,rfl,j⟩:=A2C hl hr;rw[j.str_inv];obtain⟨t,m⟩:=p.rng;obtain⟨x,hx⟩:=B1d hs m;refine(Tryz.strconv_Atoi_range s (by omega) hc _ w hx (.inr ⟨_,_,rfl⟩)).mono fun e w' ⟨N,he,_,_,o⟩=>⟨_,he,o,q w' _ _ _⟩
 |_=>
  refine H7 (r:=.tuple [.int .i64 0,.iface 266 .undef]) (by kernel_rfl) (fun w vs hl hr hs=>?_) (h _ _);obtain⟨a,rfl,j⟩:=A2C hl hr;rw[j.str_inv];obtain⟨t,m⟩:=p.syn;obtain⟨x,hx⟩:=B1d hs m;refine(Tryz.strconv_Atoi_syntax s (by omega) hc _ w hx (.inr ⟨_,_,rfl⟩)).mono fun e w' ⟨N,he,_,_,o⟩=>⟨_,he,o,q w' _ _ _⟩
end Go.Proofs.YtibphjonmikciaaGreatDoor
namespace Go.Lin
open Go Go.Av Go.Lexs
theorem A4G{l:List UInt8}{k:Nat}(h:k<l.length):I3 l k=(l[k].toNat:Int):=by simp[I3,h]
theorem A6D{l:List UInt8}{k:Nat}(h:k<l.length):sgn l[k]=true↔(I3 l k=43∨I3 l k=45):=by
 rw[A4G h];unfold sgn;simp only[D2w,beq_iff_eq];constructor
 ·rintro(e|e)
  ·left;rw[e];rfl
  ·right;rw[e];rfl
 ·rintro(e|e)
  ·left;apply UInt8.toNat_inj.1;show _=43;omega
  ·right;apply UInt8.toNat_inj.1;show _=45;omega
theorem B7x:S []=⟨#[]⟩:=rfl
theorem C7u:S [49]=⟨#[49]⟩:=rfl
theorem B7y{P:Program}{t:Nat}(hb:C6 P t= .iface):L4 P .eql t true .nilif .nilif=some (.bool true):=by simp[L4,A6O,B0H,hb]
theorem B7z{P:Program}{t u:Nat}{d:D}(hb:C6 P t= .iface):L4 P .eql t true (.iface u d) .nilif=some (.bool false):=by simp[L4,A6O,B0H,hb]
theorem A4H{p:UInt8→Bool}: ∀(l:List UInt8) (k:Nat),k≤l.length→(∀c∈l.take k,p c=true)→(∀h:k<l.length,p l[k]=false)→l.takeWhile p=l.take k∧l.dropWhile p=l.drop k
 | [],k,hk,_,_=>by simp
 |c::l,0,_,_,h=>by
  have:p c=false:=h (by simp);simp[this]
 |c::l,k+1,hk,h1,d=>by
  have hc:p c=true:=h1 c (by simp);obtain⟨a,b⟩:=A4H l k (by simpa using hk) (fun x hx=>h1 x (by simp[hx])) (fun h=>d (by simpa using h));simp[hc,a,b]
theorem l4{p:UInt8→Bool}{v:Bool}{l:List UInt8}{k:Nat}(h:k<l.length)(h1: ∀c∈l.take k,p c=v)(d:p l[k]=v): ∀c∈l.take (k+1),p c=v:=fun c hc=>by
 rw[D1s h]at hc;rcases D1z.1 hc with g|g
 ·exact h1 c g
 ·rw[D10]at g;subst g;exact d
theorem B20{b:List UInt8}(h:A0S b=none):b= []:=by
 unfold A0S at h;cases hc:Y7 b with
 |some p=>rw[hc]at h;cases h
 |none=>
  rw[hc]at h;simp only[]at h;split at h
  ·cases h
  ·split at h
   ·rename_i e;exact e
   ·cases h
theorem split_some{b c n:List UInt8}(h:A0S b=some (c,n)):Y7 b=some (c,n)∨(Y7 b=none∧b≠[]∧((M1 b=true∧c=b∧n= [])∨(M1 b=false∧c= [49]∧n=b))):=by
 unfold A0S at h;cases hc:Y7 b with
 |some p=>rw[hc]at h;left;exact h
 |none=>
  rw[hc]at h;simp only[]at h
  right
  split at h
  ·rename_i d;injection h with h
   refine⟨rfl,?_,.inl ⟨d,(congrArg Prod.fst h).symm,(congrArg Prod.snd h).symm⟩⟩;rintro rfl;cases d
  ·rename_i d;split at h
   ·cases h
   ·rename_i e;injection h with h
    exact⟨rfl,e,.inr ⟨by simpa using d,(congrArg Prod.fst h).symm,(congrArg Prod.snd h).symm⟩⟩
theorem B5Y{b c n:List UInt8}(h:A0S b=some (c,n)):c.length≤b.length+1:=by
 rcases split_some h with h|⟨_,d,⟨_,rfl,_⟩|⟨_,rfl,_⟩⟩
 ·have:=(A4F h).2.1;omega
 ·omega
 ·have:=List.length_pos_iff.2 d;simp
end Go.Lin
namespace Go.Proofs.YtibphjonmikciaaGreatDoor
open Go Go.Av Go.Lexs Go.Lin
attribute [local irreducible] ACalls Q4
set_option maxHeartbeats 4000000 in
theorem C4W{Q}(s:ByteArray)(x:UInt8)(r:List UInt8)(hB:B s=x::r)(hs:s.size≤1000000000)(H:Heap)(hT:Tabs H)
  (hN:N5 (x::r.takeWhile (!sgn ·))=none→∀v n z,Q (.tuple [.agg [.str v,.int .i64 n],.str z,.bool false]) H)
  (hY: ∀n v,N5 (x::r.takeWhile (!sgn ·))=some (n,v)→Q (.tuple [.agg [.str (S n),.int .i64 v],.str (S (r.dropWhile (!sgn ·))),.bool true]) H):
  D8 150 [.str s] H Q:=by
 refine A8 [(4,.wk),(8,.wk),(15,.wk)] A5 Tryz.func150 rfl ?_;simp only[go_sem,seval,Tryz.results150];have hl:=M8 s;have c4:s.size=r.length+1:=by rw[←hl,hB];rfl
 intro j g2;have e2:(H.set j (.box [.str ⟨#[]⟩,.int .i64 0])) j=some (.box [.str ⟨#[]⟩,.int .i64 0]):=A0 _ _;have u:H.Le (H.set j (.box [.str ⟨#[]⟩,.int .i64 0])):=A2 g2;generalize H.set j (.box [.str ⟨#[]⟩,.int .i64 0])=Bs at e2 u⊢;have b7:=hT.le u;refine C2 [0,2] (fun(n:Nat)=>[(5,.int .i64 n)]) (fun(n:Nat)=>Bs) (fun(n:Nat)=>1≤n∧n-1≤r.length∧∀c∈r.take (n-1),sgn c=false) (fun(n:Nat)=>r.length+1-n) (1) (⟨D1t _,D1u _,by simp⟩) (by simp only[go_sem,seval]) (D20 _) ?_;rintro Ec rfl n ⟨c5,hk,y⟩;obtain⟨k,b8⟩: ∃k,k=n-1:=⟨_,rfl⟩
 rw[←b8]at hk y;have W:n=k+1:=by omega
 apply I6 (C:=∀h:k<r.length,sgn r[k]=true)
 ·intro A;have hw:IntKind.i64.wrap ((n:Int)+1)=(n:Int)+1:=A4 (by omega) (by omega);have hn:Q4 s (n:Int)=I3 r k:=by
   rw[A9I,hB,show (n:Int).toNat=k+1 by omega];rfl
  by_cases G:k<r.length
  ·have I:decide ((n:Int)<s.size)=true:=D1b (by omega);have Y:(n:Int)<s.size:=by omega
   by_cases J:I3 r k=43
   ·repeat' (first|with_reducible apply D1Z|simp only[go_sem,seval,I,Y,hn,J,decide_true,decide_false,D2x]|omega)
    exact F2 [(0,.str s),(2,.box j 0),(5,.int .i64 n)] Bs (by simp only[go_sem,seval]) (D20 _) (A fun _=>(A6D G).2 (.inl J))
   ·by_cases X:I3 r k=45
    ·repeat' (first|with_reducible apply D1Z|simp only[go_sem,seval,I,Y,hn,J,X,decide_true,decide_false,D2y,D2x]|omega)
     exact F2 [(0,.str s),(2,.box j 0),(5,.int .i64 n)] Bs (by simp only[go_sem,seval]) (D20 _) (A fun _=>(A6D G).2 (.inr X))
    ·have i:sgn r[k]=false:=by
      rw[←D2v,A6D G];rintro(g|g)
      ·exact J g
      ·exact X g
     repeat' (first|with_reducible apply D1Z|simp only[go_sem,seval,I,Y,hn,J,X,decide_false,D2y]|simp(disch:=omega) only[A4]|omega)
     exact C1 (n+1) ⟨by omega,by omega,by rw[show n+1-1=k+1 by omega];exact l4 G y i⟩ (by omega) (by(try simp only[go_sem,seval])<;>(try simp(disch:=omega) [A4])) (by simp only[D7,C9,D0]at* <;>grind)
  ·have I:decide ((n:Int)<s.size)=false:=D1c (by omega);repeat' simp only[go_sem,seval,I]
   exact F2 [(0,.str s),(2,.box j 0),(5,.int .i64 n)] Bs (by simp only[go_sem,seval]) (D20 _) (A fun h=>absurd h G)
 intro a6;obtain⟨tw,dw⟩:=A4H (p:=(!sgn ·)) r k hk (fun c hc=>by rw[y c hc];rfl) (fun h=>by rw[a6 h];rfl);rw[tw]at hN hY;rw[dw]at hY;have hP:(B s).take n=x::r.take k:=by rw[hB,W];rfl
 have hD:(B s).drop n=r.drop k:=by rw[hB,W];rfl
 obtain⟨P,a9⟩: ∃P,P=x::r.take k:=⟨_,rfl⟩
 rw[←a9]at hN hY hP;have b9:P.length≤r.length+1:=by rw[a9];simp;omega
 have L:(n:Int)≤s.size:=by omega
 have M:n≤s.size:=by omega
 have tc: ∀(H:Heap) (Q:D→Heap→Prop),Q (.str (S (Lib.trimPrefix P [43]))) H→D8 185 [.str (S P),.str ⟨#[43]⟩] H Q:=fun H Q hq=>A9R _ _ H (by rw[Q7];exact hq);obtain⟨d,O⟩: ∃d,d=Lib.trimPrefix P [43]:=⟨_,rfl⟩
 rw[←O]at tc;have b3:d.length≤r.length+1:=by
  rw[O];unfold Lib.trimPrefix;split
  ·rw[D17];omega
  ·exact b9
 have b4: ∀(H:Heap) (Q:D→Heap→Prop),Q (.bool (Lib.hasPrefix d [45])) H→D8 186 [.str (S d),.str ⟨#[45]⟩] H Q:=fun H Q hq=>B1A _ _ H (by rw[Q7];exact hq);obtain⟨U,i⟩: ∃U:Int,U=if(u8 P).1=true then-1 else 1:=⟨_,rfl⟩
 obtain⟨b,hb⟩: ∃b,b=(u8 P).2:=⟨_,rfl⟩
 have c6:b.length≤r.length+1:=by
  rw[hb];unfold u8;simp only[];rw[←O];split
  ·simp only[D17];omega
  ·exact b3
 apply I6 (C:=True)
 ·intro A;by_cases hp:Lib.hasPrefix d [45]=true
  ·have a0:u8 P=(true,d.drop 1):=by unfold u8;simp only[];rw[←O,if_pos hp]
   have c0:1≤d.length:=by
    cases d with
    |nil=>cases hp
    |cons _ _=>simp
   have c1:1≤(S d).size:=by rw[J3];exact c0
   have b6:(1:Int)≤(S d).size:=by omega
   rw[a0]at i hb;simp only[if_true]at i hb;have c2:S ((B (S d)).drop 1)=S b:=by rw[Q7,hb]
   repeat' (first|with_reducible apply D1Z|simp only[go_sem,seval,L,M,hP,hp,c1,b6,c2]|with_reducible refine tc _ _ ?_|with_reducible refine b4 _ _ ?_|omega)
   exact F2 [(0,.str s),(2,.box j 0),(5,.int .i64 n),(6,.str (S b)),(7,.int .i64 U)] Bs (by simp only[go_sem,seval,i,hb]) (D20 _) (A trivial)
  ·have a0:u8 P=(false,d):=by unfold u8;simp only[];rw[←O,if_neg hp]
   have hp:Lib.hasPrefix d [45]=false:=by simpa using hp
   rw[a0]at i hb;simp only[D1p,if_false]at i hb;repeat' (first|with_reducible apply D1Z|simp only[go_sem,seval,L,M,hP,hp]|with_reducible refine tc _ _ ?_|with_reducible refine b4 _ _ ?_|omega)
   exact F2 [(0,.str s),(2,.box j 0),(5,.int .i64 n),(6,.str (S b)),(7,.int .i64 U)] Bs (by simp only[go_sem,seval,i,hb]) (D20 _) (A trivial)
 intro _;have c7:=J3 b;cases o:A0S b with
 |none=>
  have d:=B20 o;have a4:N5 P=none:=by unfold N5;rw[←hb,o]
  subst d;have cc: ∀(H:Heap) (Q:D→Heap→Prop),Q (.tuple [.str (S []),.str ⟨#[]⟩,.bool false]) H→D8 187 [.str (S []),.str ⟨#[42]⟩] H Q:=fun H Q hq=>A9d (S []) (by rw[Q7];rfl) H hq;repeat' (first|simp only[go_sem,seval,e2]|with_reducible refine cc _ _ ?_)
  exact D21 (F3 u g2) (hN a4 _ _ _)
 |some p=>
  obtain⟨c,m⟩:=p;have c8:=B5Y o;apply I6 (C:=True)
  ·intro A;rcases split_some o with T|⟨T,d,V⟩
   ·repeat' (first|simp only[go_sem,seval]|with_reducible refine C4U (S b) c m (by rw[Q7];exact T) (by omega) _ ?_)
    exact F2 [(0,.str s),(2,.box j 0),(5,.int .i64 n),(7,.int .i64 U),(8,.str (S c)),(9,.str (S m))] Bs (by simp only[go_sem,seval]) (D20 _) (A trivial)
   ·have b1: ¬S b=⟨#[]⟩:=fun e=>d (by have:=congrArg B e;rwa [Q7]at this);have bz:0<(S b).size:=by rw[J3];exact List.length_pos_iff.2 d
    have bi:(0:Int)<(S b).size:=by omega
    have a5:Y7 (B (S b))=none:=by rw[Q7];exact T
    rcases V with⟨V,rfl,rfl⟩|⟨V,rfl,rfl⟩
    ·have q:48≤I3 c 0∧I3 c 0≤57:=by unfold M1 at V;simp only[D1m]at V;exact(U6 _).1 V.2
     obtain⟨J,X⟩:=q;repeat' (first|with_reducible apply D1Z|simp only[go_sem,seval,d,b1,bz,bi,J,X]|with_reducible refine A9d (S c) a5 _ ?_|omega)
     exact F2 [(0,.str s),(2,.box j 0),(5,.int .i64 n),(7,.int .i64 U),(8,.str (S c)),(9,.str (S []))] Bs (by simp only[go_sem,seval,B7x]) (D20 _) (A trivial)
    ·have q: ¬(48≤I3 m 0∧I3 m 0≤57):=fun g=>by
      unfold M1 at V;rw[(U6 _).2 g]at V;simp[d]at V
     by_cases J:48≤I3 m 0
     ·have X: ¬I3 m 0≤57:=fun g=>q ⟨J,g⟩;repeat' (first|with_reducible apply D1Z|simp only[go_sem,seval,d,b1,bz,bi,J,X]|with_reducible refine A9d (S m) a5 _ ?_|omega)
      exact F2 [(0,.str s),(2,.box j 0),(5,.int .i64 n),(7,.int .i64 U),(8,.str (S [49])),(9,.str (S m))] Bs (by simp only[go_sem,seval,C7u]) (D20 _) (A trivial)
     ·repeat' (first|with_reducible apply D1Z|simp only[go_sem,seval,d,b1,bz,bi,J]|with_reducible refine A9d (S m) a5 _ ?_|omega)
      exact F2 [(0,.str s),(2,.box j 0),(5,.int .i64 n),(7,.int .i64 U),(8,.str (S [49])),(9,.str (S m))] Bs (by simp only[go_sem,seval,C7u]) (D20 _) (A trivial)
  intro _;by_cases hv: ∃v,Lib.atoiAll c= .ok v
  ·obtain⟨v,hv⟩:=hv;have c3:N5 P=some (m,IntKind.i64.wrap (U*v)):=by unfold N5;rw[←hb,o,i];simp only[];rw[hv]
   have hq: ∀x,L4 Tryz.prog .eql 140 (L3 (.tmp x)||L3 (.const .nilIface)) .nilif .nilif=some (.bool true):=fun x=>B7y (by kernel_rfl);repeat' (first|with_reducible apply D1Z|simp only[go_sem,seval,e2,L,M,hD,hq]|with_reducible refine C0d (S c) (by rw[J3];omega) v (by rw[Q7];exact hv) _ ?_|omega)
   exact D21 (F3 u g2) (hY _ _ c3)
  ·have hv: ∀v,Lib.atoiAll c≠ .ok v:=fun v g=>hv ⟨v,g⟩;have a4:N5 P=none:=by
    unfold N5;rw[←hb,o];cases hq:Lib.atoiAll c with
    |ok v=>exact absurd hq (hv v)
    |_=>simp only[]
   have hq: ∀x t,L4 Tryz.prog .eql 140 (L3 (.tmp x)||L3 (.const .nilIface)) (.iface t .undef) .nilif=some (.bool false):=fun x t=>B7z (by kernel_rfl);repeat' simp only[go_sem,seval,e2,L,M,hD]
   refine C0e (S c) (by rw[J3];omega) (fun v=>by rw[Q7];exact hv v) _ b7 fun z t=>?_;repeat' (first|with_reducible apply D1Z|simp only[go_sem,seval,e2,L,M,hD,hq]|omega)
   exact D21 (F3 u g2) (hN a4 _ _ _)
end Go.Proofs.YtibphjonmikciaaGreatDoor
namespace Go.Lin
open Go Go.Av Go.Lexs
def K2(l:List UInt8):LinV×Int:=match A0x l with
 |none=>(nilL,30)
 |some a=>(a,0)
theorem B70(n:Int):S8 (IntKind.i64.wrap n):=by
 unfold S8;rw[IntKind.wrap_i64];omega
theorem B5Z(x:List UInt8):(u8 x).2.length≤x.length:=by
 have h:(Lib.trimPrefix x [43]).length≤x.length:=by
  unfold Lib.trimPrefix;split
  ·rw[D17];omega
  ·exact D1t _
 unfold u8;simp only[];split
 ·simp only[D17];omega
 ·exact h
theorem B71{x n:List UInt8}{v:Int}(h:N5 x=some (n,v)):n.length≤x.length∧S8 v:=by
 unfold N5 at h;cases hs:A0S (u8 x).2 with
 |none=>rw[hs]at h;cases h
 |some p=>
  obtain⟨c,m⟩:=p;rw[hs]at h;simp only[]at h;split at h
  ·injection h with h
   have h1:m=n:=congrArg Prod.fst h;have d:IntKind.i64.wrap _=v:=congrArg Prod.snd h;refine⟨?_,by rw[←d];exact B70 _⟩;have hl:=B5Z x;rw[←h1];rcases split_some hs with hc|⟨_,g,⟨_,_,rfl⟩|⟨_,_,rfl⟩⟩
   ·obtain⟨_,i,_,e⟩:=A4F hc;rw[←e,D17];omega
   ·simp
   ·exact hl
  ·cases h
theorem B72(a:LinV){n:List UInt8}(v:Int)(h:n= []):A6x a (n,v)= {a with k:=v}:=by unfold A6x;rw[if_pos h]
theorem B73(a:LinV){n:List UInt8}(v:Int)(h:n≠[]):A6x a (n,v)= {a with t:=a.t++[⟨S n,v⟩]}:=by unfold A6x;rw[if_neg h]
theorem A8T(l m:List UInt8):(Lib.trimSuffix l m).length≤l.length:=by
 unfold Lib.trimSuffix;split
 ·rw[D2H];omega
 ·exact D1t _
def A29(a:LinV)(l:List UInt8):Option LinV:=((P3 l).mapM N5).map (A0w a)
theorem B5a(a:LinV):A29 a []=some a:=by unfold A29;rw[A1d];rfl
theorem B21(a:LinV)(x:UInt8)(r:List UInt8)(h:N5 (x::r.takeWhile (!sgn ·))=none):A29 a (x::r)=none:=by
 unfold A29;rw[A0g,List.mapM_cons,h];rfl
theorem B22(a:LinV)(x:UInt8)(r:List UInt8){p}(h:N5 (x::r.takeWhile (!sgn ·))=some p):A29 a (x::r)=A29 (A6x a p) (r.dropWhile (!sgn ·)):=by
 unfold A29;rw[A0g,List.mapM_cons,h];show Option.map _ ((List.mapM N5 _).bind _)=_;cases List.mapM N5 (P3 (r.dropWhile (!sgn ·)))<;>rfl
theorem C4X(l:List UInt8)(p:UInt8→Bool):(l.takeWhile p).length+(l.dropWhile p).length=l.length:=by
 rw[←D1f,List.takeWhile_append_dropWhile]
end Go.Lin
namespace Go.Proofs.YtibphjonmikciaaGreatDoor
open Go Go.Av Go.Lexs Go.Lin
attribute [local irreducible] ACalls Q4
theorem Tabs.ro{H:Heap}(h:Tabs H):Tabs (roH H):=⟨A86 h.pow,let ⟨t,e⟩:=h.syn;⟨t,A86 e⟩,let ⟨t,e⟩:=h.rng;⟨t,A86 e⟩⟩
set_option maxHeartbeats 4000000 in
theorem C0f{Q}(s:ByteArray)(hs:s.size≤1000000000)(H:Heap)(hT:Tabs H)(h:Q (.tuple [.agg (E4 (K2 (B s)).1),.int .i64 (K2 (B s)).2]) H):D8 120 [.str s] H Q:=by
 refine A8 [] A5 Tryz.func120 rfl ?_;simp only[go_sem,seval,Tryz.results120];have hl:=M8 s;intro U C;have e2:(H.set U (.box [.nilsl,.int .i64 0,.bool false])) U=some (.box [.nilsl,.int .i64 0,.bool false]):=A0 _ _;have i:H.Le (H.set U (.box [.nilsl,.int .i64 0,.bool false])):=A2 C;generalize H.set U (.box [.nilsl,.int .i64 0,.bool false])=Bs at e2 i⊢;have a4:=hT.le i;obtain⟨b,hb⟩: ∃b,b=Lib.trimSuffix (B s) [61,48]:=⟨_,rfl⟩
 have b1:b.length≤s.size:=by rw[hb,←hl];exact A8T _ _
 obtain⟨eq,G⟩: ∃eq,eq=Lib.hasSuffix (B s) [61,48]:=⟨_,rfl⟩
 have cc: ∀(H:Heap) (Q:D→Heap→Prop),Q (.tuple [.str (S b),.bool eq]) H→D8 147 [.str s,.str ⟨#[61,48]⟩] H Q:=fun H Q hq=>B1C s _ (by omega) H (by rw[hb,G]at hq;exact hq);obtain⟨c,hc⟩: ∃c,c=Lib.trimSuffix b [62]:=⟨_,rfl⟩
 have a5:c.length≤s.size:=by have:=A8T b [62];rw[hc];omega
 obtain⟨I,V⟩: ∃I,I=Lib.hasSuffix b [62]:=⟨_,rfl⟩
 have sb:=J3 b;have tc: ∀(H:Heap) (Q:D→Heap→Prop),Q (.str (S c)) H→D8 148 [.str (S b),.str ⟨#[62]⟩] H Q:=fun H Q hq=>A9S _ _ (by omega) H (by rw[hc]at hq;rw[Q7];exact hq);have gc: ∀(H:Heap) (Q:D→Heap→Prop),Q (.bool I) H→D8 149 [.str (S b),.str ⟨#[62]⟩] H Q:=fun H Q hq=>B1B _ _ (by omega) H (by rw[V]at hq;rw[Q7];exact hq);have W:eq=false→K2 (B s)=(nilL,30):=fun e=>by
  unfold K2 A0x A5Z;rw[←G,e];rfl
 have X:eq=true→A5Z (B s)=A29 ⟨[],0,!I⟩ c:=fun e=>by
  unfold A5Z A29;rw[←G,e,if_pos rfl];simp only[];rw[←hb,←hc,←V]
 cases eq with
 |false=>
  rw[W rfl]at h;repeat' (first|simp only[go_sem,seval,e2]|simp(disch:=first|omega|grind) only[B3]|intro d|with_reducible refine cc _ _ ?_|with_reducible refine tc _ _ ?_)
  exact D4 (A0j 0 30 false) (D21 (F3 (i.trans (A2 (by assumption))) C) h)
 |true=>
  have hR:=X rfl;clear W X;repeat' (first|simp only[go_sem,seval,e2]|intro d|with_reducible refine cc _ _ ?_|with_reducible refine tc _ _ ?_|with_reducible refine gc _ _ ?_)
  rename_i b6;have h6:=d;clear d;have f0:=A8k h6 2 [.int .i64 0,.bool !I];generalize Bs.set b6 (.box [.nilsl,.int .i64 0,.bool !I])=Hq at f0⊢;refine C2 [0,2,6] (fun(p:List UInt8×LinV×Option Nat×Heap)=>[(4,.str (S p.1))]) (fun(p:List UInt8×LinV×Option Nat×Heap)=>p.2.2.2) (fun(p:List UInt8×LinV×Option Nat×Heap)=>BxI Bs b6 2 p.2.1.t.length (Rw P2 p.2.1.t) [.int .i64 p.2.1.k,.bool p.2.1.e] p.2.2.1 p.2.2.2∧A29 p.2.1 p.1=A5Z (B s)∧p.2.1.t.length+p.1.length≤s.size∧(∀t∈p.2.1.t,t.v.size≤s.size∧S8 t.c)∧S8 p.2.1.k) (fun(p:List UInt8×LinV×Option Nat×Heap)=>p.1.length) ((c,⟨[],0,!I⟩,none,Hq)) (⟨f0,hR.symm,by simpa using a5,by simp,by unfold S8;simp⟩) (by simp only[go_sem,seval]) (D20 _) ?_;clear f0 h6;rintro Ec rfl ⟨l,a,ob,Hp⟩ ⟨j,hr,hsz,u,J⟩;simp only at j hr hsz u J;have Y:=a4.le j.le;cases l with
  |nil=>
   rw[B5a]at hr;have fa:S7 a:=⟨by simp at hsz;omega,fun t y=>by have:=(u t y).1;omega,fun t y=>(u t y).2,J⟩
   have L:=j.ex;have q:=j.le _ _ e2;have b3:b6≠U:=fun e=>by rw[e]at j;have:=j.hx;rw[e2]at this;cases this
   have tx: ∀(Q:D→Heap→Prop),Q (.tuple [.str (if validL a=true then S (E9 a)else S []),.int .i64 (if validL a=true then 0 else 2)]) Hp→D8 115 [.agg [J8 2 a.t.length ob,.int .i64 a.k,.bool a.e]] Hp Q:=fun Q hq=>A4R (by rw[D6]) j.eo (B7s a fa _ (Y.ro) ⟨rfl,hq⟩);have o1:(D.one.match_1 (fun _=>Bool) (J8 2 a.t.length ob) (fun _=>false) (fun _=>false) (fun _=>false) fun _=>true)=true:=by cases ob<;>rfl
   by_cases hv:validL a=true
   ·rw[if_pos hv,if_pos hv]at tx;by_cases y:E9 a=B s
    ·have hp:K2 (B s)=(a,0):=by unfold K2 A0x;rw[←hr];simp only[D13];rw[if_pos ⟨hv,y⟩]
     rw[hp]at h;repeat' (first|simp only[go_sem,seval,q,L,y,o1]|with_reducible refine tx _ ?_)
     cases ob with
     |none=>
      obtain⟨T,K,E⟩:=a;have hz:T= []:=D1x (by have:=congrArg List.length (show Rw P2 T= []from j.eo);rwa [D6]at this);subst hz;exact D4 (A0j K 0 E) (D21 (F3 (i.trans j.le) C) h)
     |some b'=>
      obtain⟨q1,q2⟩:=j.fin i C q;exact B18 q1 (by rw[D6]) (D21 q2 h)
    ·have hp:K2 (B s)=(nilL,30):=by unfold K2 A0x;rw[←hr];simp only[D13];rw[if_neg (fun g=>y g.2)]
     rw[hp]at h;repeat' (first|simp only[go_sem,seval,q,L,y,o1]|with_reducible refine tx _ ?_)
     exact D4 (A0j 0 30 false) (D21 (F3 (i.trans j.le) C) h)
   ·rw[if_neg hv,if_neg hv]at tx;have hp:K2 (B s)=(nilL,30):=by unfold K2 A0x;rw[←hr];simp only[D13];rw[if_neg (fun g=>hv g.1)]
    rw[hp]at h;repeat' (first|simp only[go_sem,seval,q,L,o1]|with_reducible refine tx _ ?_)
    exact D4 (A0j 0 30 false) (D21 (F3 (i.trans j.le) C) h)
  |cons x r=>
   have b4:=C4X r (!sgn ·);simp only[D1e]at hsz;repeat' simp only[go_sem,seval]
   refine C4W (S (x::r)) x r (Q7 _) (by rw[J3,D1e];omega) _ Y (fun hp v n z=>?_) (fun n v hp=>?_)
   ·rw[B21 _ _ _ hp]at hr;have a6:K2 (B s)=(nilL,30):=by unfold K2 A0x;rw[←hr];rfl
    rw[a6]at h;have q:=j.le _ _ e2;repeat' (first|simp only[go_sem,seval,q]|simp(disch:=first|omega|grind) only[B3]|intro d)
    exact D4 (A0j 0 30 false) (D21 (F3 (i.trans (j.le.trans (A2 (by assumption)))) C) h)
   ·rw[B22 _ _ _ hp]at hr;obtain⟨p1,p2⟩:=B71 hp;simp only[D1e]at p1;have b8:(r.dropWhile (!sgn ·)).length<r.length+1:=by omega
    by_cases hn:n= []
    ·rw[B72 a v hn]at hr;repeat' (first|simp only[go_sem,seval,hn]|intro d)
     rename_i M;have h7:=d;clear d;have A:=j.up (A2 (o:=.box [.str (S n),.int .i64 v]) h7);have O:(Hp.set M (.box [.str (S n),.int .i64 v])) M=some (.box [.str (S n),.int .i64 v]):=A0 _ _;rw[hn]at A O;generalize Hp.set M (.box [.str (S []),.int .i64 v])=Hr at A O⊢;have L:=A.ex;repeat' simp only[go_sem,seval,L,O]
     exact C1 (r.dropWhile (!sgn ·),{a with k:=v},ob,_) ⟨A.re _,hr,by simp only[];omega,u,p2⟩ (by simp only[D1e];omega) (by simp only[go_sem,seval]) (D20 _)
    ·rw[B73 a v hn]at hr;repeat' (first|simp only[go_sem,seval,hn]|intro d)
     rename_i M;have h7:=d;clear d;have A:=j.up (A2 (o:=.box [.str (S n),.int .i64 v]) h7);have O:(Hp.set M (.box [.str (S n),.int .i64 v])) M=some (.box [.str (S n),.int .i64 v]):=A0 _ _;generalize Hp.set M (.box [.str (S n),.int .i64 v])=Hr at A O⊢;have L:=A.ex;repeat' (first|simp only[go_sem,seval,L,O]|intro d)
     rename_i bx;have a9:=d;clear d;refine A5V (P:=Tryz.prog) (H0:=Hr) (es:=Rw P2 a.t) a9 (by simp) A.eo (by rw[D6]) (by simp only[D1e,D1g];omega) (by simp only[D1e,D1g];omega) fun b' H' hA=>?_;have hY:Rw P2 a.t++[[D.str (S n),.int .i64 v]]=Rw P2 (a.t++[⟨S n,v⟩]):=by rw[←P1];rfl
     rw[hY]at hA;obtain⟨f1,b0⟩:=A.ap (m:=a.t.length+1) (D20 _) hA;repeat' simp only[go_sem,seval,b0]
     have a0:(a.t++[(⟨S n,v⟩:LTm)]).length=a.t.length+1:=by rw[D1f];rfl
     refine C1 (r.dropWhile (!sgn ·),{a with t:=a.t++[⟨S n,v⟩]},some b',_) ⟨?_,hr,by simp only[a0];omega,fun t y=>?_,J⟩ (by simp only[D1e];omega) (by simp only[go_sem,seval,K6]) (D20 _)
     ·simp only[a0];exact f1
     ·rcases D1z.1 y with g|g
      ·exact u t g
      ·rw[D10]at g;subst g;exact⟨by simp only[J3];omega,p2⟩
end Go.Proofs.YtibphjonmikciaaGreatDoor
namespace Go.Lin
open Go Go.Av Go.Lexs
theorem A8U(l:List UInt8)(k:Nat)(h:k<l.length):A5t (l.take (k+1))=10*A5t (l.take k)+I3 l k-48:=by
 unfold A5t;rw[D1s h,D2R,A4G h];rfl
theorem B1e(l:List UInt8): ∀k,k≤l.length→(A5t (l.take k)).natAbs+23≤23*10 ^ k
 |0,_=>by simp[A5t]
 |k+1,h=>by
  have d:=B1e l k (by omega);have hr:=A71 l k;rw[A8U l k (by omega),Nat.pow_succ];omega
theorem A9e(l:List UInt8)(k:Nat)(h:k≤l.length)(d:k≤14):(A5t (l.take k)).natAbs≤2300000000000000:=by
 have:=B1e l k h;have e:10 ^ k≤10 ^ 14:=Nat.pow_le_pow_right (by decide) d;omega
theorem B1f(l:List UInt8):(A3Q l).natAbs≤2300000000000000:=by
 unfold A3Q;by_cases h:14≤l.length
 ·exact A9e l 14 h (by decide)
 ·have:=A9e l l.length (D1t _) (by omega);rwa [List.take_length,←D1o (show l.length≤14 by omega)]at this
theorem B4J(l:List UInt8)(k:Nat)(h:k≤l.length)(d:k≤14)(e:k=14∨k=l.length):A5t (l.take k)=A3Q l:=by
 unfold A3Q;rcases e with rfl|rfl
 ·rfl
 ·rw[List.take_length,D1o d]
def B1g(a:LinV)(l:List UInt8):LinV:=A0w a ((P3 l).map A0T)
theorem B74(a:LinV):B1g a []=a:=by unfold B1g;rw[A1d];rfl
theorem B5b(a:LinV)(x:UInt8)(r:List UInt8):B1g a (x::r)=B1g (A6x a (A0T (x::r.takeWhile (!sgn ·)))) (r.dropWhile (!sgn ·)):=by
 unfold B1g;rw[A0g,D2q];rfl
theorem B1h(s:List UInt8):K2 s=if validL (A2I s)=true∧E9 (A2I s)=s then(A2I s,0)else(nilL,30):=by
 unfold K2;rw[B61];split<;>rename_i h<;>split at h<;>simp_all
def A4I(b:List UInt8):Int×List UInt8:=match Y7 b with
 |some (c,n)=>(A3Q c,n)
 |none=>(1,b)
def A2P(p:Int×List UInt8):Int×List UInt8:=if p.2= []∨M1 p.2=true then(A3Q p.2,[])else p
theorem B5c(x:List UInt8):A0T x=((A2P (A4I (V0 x).2)).2,if(V0 x).1=true then-(A2P (A4I (V0 x).2)).1 else(A2P (A4I (V0 x).2)).1):=by
 unfold A0T A2P A4I;rfl
theorem B75(b:List UInt8):(A4I b).1.natAbs≤2300000000000000∧(A4I b).2.length≤b.length:=by
 unfold A4I;cases h:Y7 b with
 |none=>simp
 |some p=>
  obtain⟨c,n⟩:=p;obtain⟨_,e,_,d⟩:=A4F h;refine⟨B1f c,?_⟩;simp only[];rw[←d,D17];omega
theorem B76{p:Int×List UInt8}(h:p.1.natAbs≤2300000000000000):(A2P p).1.natAbs≤2300000000000000∧(A2P p).2.length≤p.2.length:=by
 unfold A2P;split
 ·exact⟨B1f _,D1u _⟩
 ·exact⟨h,D1t _⟩
theorem B5d(c:UInt8)(r:List UInt8):(V0 (c::r)).2.length≤r.length+1:=by
 unfold V0;simp only[];split
 ·simp
 ·split<;>simp
theorem O8{l:List UInt8}{k:Nat}(h:k<l.length)(b:UInt8):I3 l k=(b.toNat:Int)↔l[k]=b:=by
 rw[A4G h];constructor
 ·intro e;apply UInt8.toNat_inj.1;omega
 ·rintro rfl;rfl
end Go.Lin
namespace Go.Proofs.YtibphjonmikciaaGreatDoor
open Go Go.Av Go.Lexs Go.Lin
attribute [local irreducible] ACalls Q4
theorem A7B{Q}(l:List UInt8)(hl:l.length≤1000000000)(H:Heap)(h:Q (.int .i64 (A3Q l)) H):D8 151 [.str (S l)] H Q:=by
 refine A8 [(6,.wk)] A5 Tryz.func151 rfl ?_;simp only[go_sem,seval,Tryz.results151];refine C2 [0] (fun(p:Nat×Int)=>[(3,.int .i64 p.2),(4,.int .i64 p.1)]) (fun(p:Nat×Int)=>H) (fun(p:Nat×Int)=>p.1≤l.length∧p.1≤14∧p.2=A5t (l.take p.1)) (fun(p:Nat×Int)=>l.length-p.1) ((0,0)) (⟨D1u _,D1u _,rfl⟩) (by simp only[go_sem,seval]) (D20 _) ?_;rintro y rfl ⟨i,v⟩ ⟨j,d,hv⟩;simp only at j d hv;have hb:=A9e l i j d;rw[←hv]at hb;by_cases m:i<l.length
 ·have e:decide ((i:Int)<l.length)=true:=D1b (by omega);have g:(i:Int)<l.length:=by omega
  by_cases z:i<14
  ·have o:decide ((i:Int)<14)=true:=D1b (by omega);have hr:=A71 l i;have q:IntKind.i64.wrap (10*v)=10*v:=A4 (by omega) (by omega);have r:IntKind.i64.wrap (I3 l i)=I3 l i:=A4 (by omega) (by omega);have u:IntKind.i64.wrap (10*v+I3 l i)=10*v+I3 l i:=A4 (by omega) (by omega);have x:IntKind.i64.wrap (10*v+I3 l i-48)=10*v+I3 l i-48:=A4 (by omega) (by omega);repeat' (first|with_reducible apply D1Z|simp only[go_sem,seval,e,g,o,q,r,u,x]|simp(disch:=omega) only[A4]|omega)
   exact C1 (i+1,10*v+I3 l i-48) ⟨by simp only[];omega,by simp only[];omega,by simp only[];rw[A8U l i m,hv]⟩ (by simp only[];omega) (by(try simp only[go_sem,seval])<;>(try simp(disch:=omega) [A4])) (D20 _)
  ·have o:decide ((i:Int)<14)=false:=D1c (by omega);repeat' simp only[go_sem,seval,e,g,o]
   refine F2 [(3,.int .i64 v)] H (by simp only[go_sem,seval]) (D20 _) ?_;rw[hv,B4J l i j d (.inl (by omega))];repeat' simp only[go_sem,seval]
   exact D22 h
 ·have e:decide ((i:Int)<l.length)=false:=D1c (by omega);repeat' simp only[go_sem,seval,e]
  refine F2 [(3,.int .i64 v)] H (by simp only[go_sem,seval]) (D20 _) ?_;rw[hv,B4J l i j d (.inr (by omega))];repeat' simp only[go_sem,seval]
  exact D22 h
set_option maxHeartbeats 4000000 in
theorem B77{Q}(s:ByteArray)(hs:s.size≤1000000000)(H:Heap)(h:Q (.tuple [.agg (E4 (K2 (B s)).1),.int .i64 (K2 (B s)).2]) H):D8 122 [.str s] H Q:=by
 refine A8 [(5,.wk),(6,.wk),(11,.wk),(16,.wk),(21,.par),(22,.wk),(24,.wk),(26,.wk)] A5 Tryz.func122 rfl ?_;simp only[go_sem,seval,Tryz.results122];have hl:=M8 s;intro I g2 A g4;simp only[A6]at g4;have e2:((H.set I (.box [.nilsl,.int .i64 0,.bool false])).set A (.box [.nilsl,.int .i64 0,.bool false])) I=some (.box [.nilsl,.int .i64 0,.bool false]):=by rw[A3 _ g4.1.symm,A0]
 have b1:H.Le (H.set I (.box [.nilsl,.int .i64 0,.bool false])):=A2 g2;have f4:(H.set I (.box [.nilsl,.int .i64 0,.bool false])) I=some (.box [.nilsl,.int .i64 0,.bool false]):=A0 _ _;have h4:(H.set I (.box [.nilsl,.int .i64 0,.bool false])) A=none:=by simp only[A6];exact g4
 generalize H.set I (.box [.nilsl,.int .i64 0,.bool false])=Bs at e2 f4 b1 h4⊢;obtain⟨l,hB⟩: ∃l,l=B s:=⟨_,rfl⟩
 have j1:l.length=s.size:=by rw[hB,hl]
 rw[←hB]at h;have d3: ∀k:Nat,Q4 s (k:Int)=I3 l k:=fun k=>by rw[A9I,hB];rfl
 --the end of the body
 refine C2 [0,2,4] (fun(n:Nat)=>[(5,.int .i64 n)]) (fun(n:Nat)=>Bs.set A (.box [.nilsl,.int .i64 0,.bool false])) (fun(n:Nat)=>n≤l.length∧∀c∈l.take n,A2H c=false) (fun(n:Nat)=>l.length-n) (0) (⟨D1u _,by simp⟩) (by simp only[go_sem,seval]) (D20 _) ?_;rintro Ec rfl n ⟨hn,c8⟩;apply I6 (C:=∀h:n<l.length,A2H l[n]=true)
 ·intro G;have hw:IntKind.i64.wrap ((n:Int)+1)=(n:Int)+1:=A4 (by omega) (by omega);have o:=d3 n;by_cases M:n<l.length
  ·have d:decide ((n:Int)<s.size)=true:=D1b (by omega);have U:(n:Int)<s.size:=by omega
   by_cases j:I3 l n=61
   ·repeat' (first|with_reducible apply D1Z|simp only[go_sem,seval,d,U,o,j,decide_true,decide_false,D2x]|omega)
    exact F2 [(0,.str s),(2,.box I 0),(4,.box A 0),(5,.int .i64 n)] _ (by simp only[go_sem,seval]) (D20 _) (G fun _=>by rw[(O8 M 61).1 j];rfl)
   ·by_cases O:I3 l n=62
    ·repeat' (first|with_reducible apply D1Z|simp only[go_sem,seval,d,U,o,j,O,decide_true,decide_false,D2y,D2x]|omega)
     exact F2 [(0,.str s),(2,.box I 0),(4,.box A 0),(5,.int .i64 n)] _ (by simp only[go_sem,seval]) (D20 _) (G fun _=>by rw[(O8 M 62).1 O];rfl)
    ·have hst:A2H l[n]=false:=by
      unfold A2H;simp only[Bool.or_eq_false_iff,beq_eq_false_iff_ne];exact⟨fun e=>j ((O8 M 61).2 e),fun e=>O ((O8 M 62).2 e)⟩
     repeat' (first|with_reducible apply D1Z|simp only[go_sem,seval,d,U,o,j,O,decide_false,D2y,hw]|omega)
     exact C1 (n+1) ⟨by omega,l4 M c8 hst⟩ (by omega) (by(try simp only[go_sem,seval])<;>(try simp(disch:=omega) [A4])) (by simp only[D7,C9,D0]at* <;>grind)
  ·have d:decide ((n:Int)<s.size)=false:=D1c (by omega);repeat' simp only[go_sem,seval,d]
   exact F2 [(0,.str s),(2,.box I 0),(4,.box A 0),(5,.int .i64 n)] _ (by simp only[go_sem,seval]) (D20 _) (G fun h=>absurd h M)
 intro f5;obtain⟨tw,dw⟩:=A4H (p:=(!A2H ·)) l n hn (fun c hc=>by rw[c8 c hc];rfl) (fun h=>by rw[f5 h];rfl);obtain⟨J,d4⟩: ∃J,J=decide ((l.drop n).head?=some 61):=⟨_,rfl⟩
 have hR:A2I l=B1g ⟨[],0,J⟩ (l.take n):=by unfold A2I B1g;rw[tw,dw,←d4]
 apply I6 (C:=True)
 ·intro G;have o:=d3 n;by_cases M:n<l.length
  ·have d:decide ((n:Int)<s.size)=true:=D1b (by omega);have U:(n:Int)<s.size:=by omega
   have hd:J=decide (l[n]=61):=by rw[d4,D14 M,List.head?_cons];exact D2C.2 (by rw[D2B])
   by_cases j:I3 l n=61
   ·have ev:J=true:=by rw[hd,(O8 M 61).1 j];rfl
    repeat' (first|with_reducible apply D1Z|simp only[go_sem,seval,d,U,o,j,decide_true]|omega)
    exact F2 [(0,.str s),(2,.box I 0),(4,.box A 0),(5,.int .i64 n)] (Bs.set A (.box [.nilsl,.int .i64 0,.bool J])) (by simp only[go_sem,seval]) (by rw[ev];exact D20 _) (G trivial)
   ·have ev:J=false:=by rw[hd];exact D1c fun e=>j ((O8 M 61).2 e)
    repeat' (first|with_reducible apply D1Z|simp only[go_sem,seval,d,U,o,j,decide_false]|omega)
    exact F2 [(0,.str s),(2,.box I 0),(4,.box A 0),(5,.int .i64 n)] (Bs.set A (.box [.nilsl,.int .i64 0,.bool J])) (by simp only[go_sem,seval]) (by rw[ev];exact D20 _) (G trivial)
  ·have d:decide ((n:Int)<s.size)=false:=D1c (by omega);have ev:J=false:=by rw[d4,List.drop_eq_nil_of_le (by omega)];rfl
   repeat' simp only[go_sem,seval,d]
   exact F2 [(0,.str s),(2,.box I 0),(4,.box A 0),(5,.int .i64 n)] (Bs.set A (.box [.nilsl,.int .i64 0,.bool J])) (by simp only[go_sem,seval]) (by rw[ev];exact D20 _) (G trivial)
 intro _;have f0:=A8k h4 2 [.int .i64 0,.bool J];generalize Bs.set A (.box [.nilsl,.int .i64 0,.bool J])=Hq at f0⊢;clear e2;obtain⟨L,hL⟩: ∃L,L=l.take n:=⟨_,rfl⟩
 have g6:L.length=n:=by rw[hL,D2H];omega
 have g7: ∀k,k<n→I3 l k=I3 L k:=fun k hk=>by
  rw[hL];unfold I3;rw[List.getD_eq_getElem?_getD,List.getD_eq_getElem?_getD,List.getElem?_take_of_lt hk]
 rw[←hL]at hR;repeat' simp only[go_sem,seval]
 refine C2 [0,2,4,5] (fun(p:Nat×Nat×LinV×Option Nat×Heap)=>[(6,.int .i64 p.2.1),(7,.int .i64 p.1)]) (fun(p:Nat×Nat×LinV×Option Nat×Heap)=>p.2.2.2.2) (fun(p:Nat×Nat×LinV×Option Nat×Heap)=>p.1≤n+1∧p.2.1<p.1∧p.2.1≤n∧(p.1=n+1→p.2.1=n)∧(∀c∈(L.drop (p.2.1+1)).take (p.1-p.2.1-1),sgn c=false)∧BxI Bs A 2 p.2.2.1.t.length (Rw P2 p.2.2.1.t) [.int .i64 p.2.2.1.k,.bool p.2.2.1.e] p.2.2.2.1 p.2.2.2.2∧B1g p.2.2.1 (L.drop p.2.1)=A2I l∧p.2.2.1.t.length≤p.2.1∧(∀t∈p.2.2.1.t,t.v.size≤s.size∧S8 t.c)∧S8 p.2.2.1.k) (fun(p:Nat×Nat×LinV×Option Nat×Heap)=>n+1-p.1) ((1,0,⟨[],0,J⟩,none,Hq)) (⟨by simp only[];omega,by simp,D1u _,fun e=>by simp only[]at e⊢;omega,by simp,f0,by rw[List.drop_zero];exact hR.symm,D1u _,by simp,by unfold S8;simp⟩) (by simp only[go_sem,seval]) (D20 _) ?_;clear f0;rintro Ec rfl ⟨i,f,a,ob,Hp⟩ ⟨hi,g8,f7,f8,b8,Y,hr,f9,a6,b9⟩;simp only at hi g8 f7 f8 b8 Y hr f9 a6 b9;by_cases g0:i≤n
 ·have d:decide ((i:Int)≤n)=true:=D1b (by omega);obtain⟨r,a9⟩: ∃r,r=L.drop (f+1):=⟨_,rfl⟩
  rw[←a9]at b8;have j2:r.length=n-(f+1):=by rw[a9,D17,g6]
  have g9:f<L.length:=by omega
  have d5:L.drop f=L[f]::r:=by rw[a9];exact D14 g9
  have h0: ∀h:i-f-1<r.length,∀h2:i<L.length,r[i-f-1]=L[i]:=fun h h2=>by
   subst a9;rw[List.getElem_drop];congr 1;omega
  apply I6 (C:=∀h:i-f-1<r.length,sgn r[i-f-1]=true)
  ·intro G;by_cases M:i<n
   ·have b3:decide ((i:Int)<n)=true:=D1b (by omega);have U:(i:Int)<s.size:=by omega
    have o:Q4 s (i:Int)=I3 L i:=by rw[d3 i,g7 i M]
    have g1:i<L.length:=by omega
    have d6: ∀h:i-f-1<r.length,sgn r[i-f-1]=true↔(I3 L i=43∨I3 L i=45):=fun h=>by rw[h0 h g1];exact A6D g1
    by_cases j:I3 L i=43
    ·repeat' (first|with_reducible apply D1Z|simp only[go_sem,seval,d,b3,U,o,j,decide_true,decide_false,D2x]|omega)
     exact F2 [(0,.str s),(2,.box I 0),(4,.box A 0),(5,.int .i64 n),(6,.int .i64 f),(7,.int .i64 i)] Hp (by simp only[go_sem,seval]) (D20 _) (G fun h=>(d6 h).2 (.inl j))
    ·by_cases O:I3 L i=45
     ·repeat' (first|with_reducible apply D1Z|simp only[go_sem,seval,d,b3,U,o,j,O,decide_true,decide_false,D2y,D2x]|omega)
      exact F2 [(0,.str s),(2,.box I 0),(4,.box A 0),(5,.int .i64 n),(6,.int .i64 f),(7,.int .i64 i)] Hp (by simp only[go_sem,seval]) (D20 _) (G fun h=>(d6 h).2 (.inr O))
     ·have c9:i-f-1<r.length:=by clear G;omega
      have h3:sgn r[i-f-1]=false:=by
       rw[←D2v,d6 c9];rintro(g|g)
       ·exact j g
       ·exact O g
      repeat' (first|with_reducible apply D1Z|simp only[go_sem,seval,d,b3,U,o,j,O,decide_false,D2y]|simp(disch:=omega) only[A4]|omega)
      refine C1 (i+1,f,a,ob,Hp) ⟨by simp only[];omega,by simp only[];omega,f7,fun e=>by simp only[]at e;omega,?_,Y,hr,f9,a6,b9⟩ (by simp only[];omega) (by(try simp only[go_sem,seval])<;>(try simp(disch:=omega) [A4])) (D20 _);simp only[];rw[←a9,show i+1-f-1=i-f-1+1 by omega];exact l4 c9 b8 h3
   ·have b3:decide ((i:Int)<n)=false:=D1c (by omega);repeat' simp only[go_sem,seval,d,b3]
    exact F2 [(0,.str s),(2,.box I 0),(4,.box A 0),(5,.int .i64 n),(6,.int .i64 f),(7,.int .i64 i)] Hp (by simp only[go_sem,seval]) (D20 _) (G fun h=>absurd h (by clear G;omega))
  intro d7;obtain⟨h6,h7⟩:=A4H (p:=(!sgn ·)) r (i-f-1) (by omega) (fun c hc=>by rw[b8 c hc];rfl) (fun h=>by rw[d7 h];rfl);obtain⟨c,hc⟩: ∃c,c=L[f]:=⟨_,rfl⟩
  rw[←hc]at d5;rw[d5,B5b,h6,h7]at hr;have g3:r.drop (i-f-1)=L.drop i:=by rw[a9,D2j];congr 1;omega
  rw[g3]at hr;obtain⟨P',d8⟩: ∃P',P'=r.take (i-f-1):=⟨_,rfl⟩
  rw[←d8]at hr;have i9:P'.length=i-f-1:=by rw[d8,D2H];omega
  have hP:((B s).take i).drop f=c::P':=by
   rw[←hB,show l.take i=L.take i by rw[hL,List.take_take];congr 1;omega,List.drop_take,d5,show i-f=i-f-1+1 by omega,List.take_succ_cons,d8]
  have b6:(f:Int)≤i:=by omega
  have d9:(i:Int)≤s.size:=by omega
  have e0:(0:Int)<(c::P').length:=by simp only[D1e];omega
  have e6:(1:Int)≤(c::P').length:=by simp only[D1e];omega
  have o:I3 (c::P') 0=(c.toNat:Int):=rfl;rw[B5c]at hr;obtain⟨bl,c2⟩: ∃bl,bl=(V0 (c::P')).1:=⟨_,rfl⟩
  obtain⟨b,hb⟩: ∃b,b=(V0 (c::P')).2:=⟨_,rfl⟩
  have h8:=B5d c P';rw[←hb]at h8;rw[←c2,←hb]at hr;apply I6 (C:=True)
  ·intro G;by_cases j:c=45
   ·have c3:(c.toNat:Int)=45:=by rw[j];rfl
    have eb:b=P':=by rw[hb];unfold V0;simp only[];rw[if_pos j]
    have b7:bl=true:=by rw[c2];unfold V0;simp only[];rw[if_pos j]
    repeat' (first|with_reducible apply D1Z|simp only[go_sem,seval,b6,d9,hP,e0,e6,o,c3,decide_true]|omega)
    exact F2 [(0,.str s),(2,.box I 0),(4,.box A 0),(5,.int .i64 n),(6,.int .i64 i),(7,.int .i64 i),(8,.str (S b)),(9,.bool bl)] Hp (by simp only[go_sem,seval,eb,b7]) (D20 _) (G trivial)
   ·have c3: ¬(c.toNat:Int)=45:=fun e=>j (UInt8.toNat_inj.1 (by show _=45;omega));by_cases O:c=43
    ·have e7:(c.toNat:Int)=43:=by rw[O];rfl
     have eb:b=P':=by rw[hb];unfold V0;simp only[];rw[if_neg j,if_pos O]
     have b7:bl=false:=by rw[c2];unfold V0;simp only[];rw[if_neg j,if_pos O]
     repeat' (first|with_reducible apply D1Z|simp only[go_sem,seval,b6,d9,hP,e0,e6,o,c3,e7,decide_true,decide_false]|omega)
     exact F2 [(0,.str s),(2,.box I 0),(4,.box A 0),(5,.int .i64 n),(6,.int .i64 i),(7,.int .i64 i),(8,.str (S b)),(9,.bool bl)] Hp (by simp only[go_sem,seval,eb,b7]) (D20 _) (G trivial)
    ·have e7: ¬(c.toNat:Int)=43:=fun e=>O (UInt8.toNat_inj.1 (by show _=43;omega));have eb:b=c::P':=by rw[hb];unfold V0;simp only[];rw[if_neg j,if_neg O]
     have b7:bl=false:=by rw[c2];unfold V0;simp only[];rw[if_neg j,if_neg O]
     repeat' (first|with_reducible apply D1Z|simp only[go_sem,seval,b6,d9,hP,e0,e6,o,c3,e7,decide_false]|omega)
     exact F2 [(0,.str s),(2,.box I 0),(4,.box A 0),(5,.int .i64 n),(6,.int .i64 i),(7,.int .i64 i),(8,.str (S b)),(9,.bool bl)] Hp (by simp only[go_sem,seval,eb,b7]) (D20 _) (G trivial)
  intro _;obtain⟨v0,c4⟩: ∃v,v=(A4I b).1:=⟨_,rfl⟩
  obtain⟨V,a4⟩: ∃v,v=(A4I b).2:=⟨_,rfl⟩
  obtain⟨a0,a1⟩:=B75 b;rw[←c4]at a0;rw[←a4]at a1;apply I6 (C:=True)
  ·intro G;repeat' simp only[go_sem,seval]
   refine C2 [0,2,4,5,6,7,8,9] (fun(k:Nat)=>[(10,.int .i64 1),(11,.str (S b)),(12,.int .i64 k)]) (fun(k:Nat)=>Hp) (fun(k:Nat)=>k≤b.length∧∀x∈b.take k,x≠42) (fun(k:Nat)=>b.length-k) (0) (⟨D1u _,by simp⟩) (by simp only[go_sem,seval]) (D20 _) ?_;rintro Ec rfl k ⟨hk,c5⟩;by_cases c6:k<b.length
   ·have a5:decide ((k:Int)<b.length)=true:=D1b (by omega);have d0:(k:Int)<b.length:=by omega
    have h9:(k:Int)≤b.length:=by omega
    have i0:(k:Int)+1≤b.length:=by omega
    have i1:(0:Int)≤(k:Int)+1:=by omega
    have w:IntKind.i64.wrap ((k:Int)+1)=(k:Int)+1:=A4 (by omega) (by omega);by_cases q:I3 b k=42
    ·have q':=(O8 c6 42).1 q;obtain⟨t1,t2⟩:=A4H (p:=(· != 42)) b k hk (fun x hx=>by simp[c5 x hx]) (fun h=>by rw[q'];rfl);have W:Y7 b=some (b.take k,b.drop (k+1)):=by
      unfold Y7;rw[if_pos (by rw[←q'];exact D1n c6),t1,t2,D2j]
     have ev:v0=A3Q (b.take k):=by rw[c4];unfold A4I;rw[W]
     have en:V=b.drop (k+1):=by rw[a4];unfold A4I;rw[W]
     repeat' (first|with_reducible apply D1Z|simp only[go_sem,seval,a5,d0,q]|omega)
     refine F7 (fun i'=>if i'=3 then .int .i64 (A3Q (b.take k))else .undef) [] ?_;repeat' (first|with_reducible apply D1Z|simp only[go_sem,seval,h9,i0,i1,w]|with_reducible refine S6 (fun H' Q hro hq=>A7B (b.take k) (by rw[D2H];omega) H' hq) ?_|omega)
     exact F2 [(0,.str s),(2,.box I 0),(4,.box A 0),(5,.int .i64 n),(6,.int .i64 i),(7,.int .i64 i),(9,.bool bl),(10,.int .i64 v0),(11,.str (S V))] Hp (by simp only[go_sem,seval,ev,en]) (D20 _) (G trivial)
    ·repeat' (first|with_reducible apply D1Z|simp only[go_sem,seval,a5,d0,q,w]|omega)
     exact C1 (k+1) ⟨by omega,fun x hx=>by
      rw[D1s c6]at hx;rcases D1z.1 hx with g|g
      ·exact c5 x g
      ·rw[D10]at g;rw[g];exact fun e=>q ((O8 c6 42).2 e)⟩ (by omega) (by(try simp only[go_sem,seval])<;>(try simp(disch:=omega) [A4])) (D20 _)
   ·have a5:decide ((k:Int)<b.length)=false:=D1c (by omega);rw[D1o (by omega)]at c5;have W:Y7 b=none:=by
     unfold Y7;rw[if_neg (fun hm=>c5 _ hm rfl)]
    have ev:v0=1:=by rw[c4];unfold A4I;rw[W]
    have en:V=b:=by rw[a4];unfold A4I;rw[W]
    repeat' simp only[go_sem,seval,a5]
    exact F2 [(0,.str s),(2,.box I 0),(4,.box A 0),(5,.int .i64 n),(6,.int .i64 i),(7,.int .i64 i),(9,.bool bl),(10,.int .i64 v0),(11,.str (S V))] Hp (by simp only[go_sem,seval,ev,en]) (D20 _) (G trivial)
  intro _;have i2:A4I b=(v0,V):=by rw[c4,a4]
  rw[i2]at hr;obtain⟨v1,u⟩: ∃v,v=(A2P (v0,V)).1:=⟨_,rfl⟩
  obtain⟨n1,y⟩: ∃v,v=(A2P (v0,V)).2:=⟨_,rfl⟩
  obtain⟨c0,c1⟩:=B76 (p:=(v0,V)) a0;simp only[]at c1;rw[←u]at c0;rw[←y]at c1;rw[←u,←y]at hr;apply I6 (C:=True)
  ·intro G;by_cases z:V= []
   ·subst z;have eq:A2P (v0,[])=(A3Q [],[]):=by unfold A2P;rw[if_pos (.inl rfl)]
    rw[eq]at u y;simp only[]at u y;repeat' (first|simp only[go_sem,seval]|with_reducible refine A7B [] (by decide) _ ?_)
    exact F2 [(0,.str s),(2,.box I 0),(4,.box A 0),(5,.int .i64 n),(6,.int .i64 i),(7,.int .i64 i),(9,.bool bl),(10,.int .i64 v1),(11,.str (S n1))] Hp (by simp only[go_sem,seval,u,y,B7x]) (D20 _) (G trivial)
   ·have nz:(0:Int)<V.length:=by have:=List.length_pos_iff.2 z;omega
    by_cases j:48≤I3 V 0
    ·by_cases O:I3 V 0≤57
     ·have eq:A2P (v0,V)=(A3Q V,[]):=by unfold A2P M1 O6;rw[if_pos (.inr (by simp[z,j,O]))]
      rw[eq]at u y;simp only[]at u y;repeat' (first|simp only[go_sem,seval,z,nz,j,O]|with_reducible refine A7B V (by omega) _ ?_)
      exact F2 [(0,.str s),(2,.box I 0),(4,.box A 0),(5,.int .i64 n),(6,.int .i64 i),(7,.int .i64 i),(9,.bool bl),(10,.int .i64 v1),(11,.str (S n1))] Hp (by simp only[go_sem,seval,u,y,B7x]) (D20 _) (G trivial)
     ·have eq:A2P (v0,V)=(v0,V):=by unfold A2P M1 O6;rw[if_neg (by simp[z,j,O])]
      rw[eq]at u y;simp only[]at u y;repeat' simp only[go_sem,seval,z,nz,j,O]
      exact F2 [(0,.str s),(2,.box I 0),(4,.box A 0),(5,.int .i64 n),(6,.int .i64 i),(7,.int .i64 i),(9,.bool bl),(10,.int .i64 v1),(11,.str (S n1))] Hp (by simp only[go_sem,seval,u,y]) (D20 _) (G trivial)
    ·have eq:A2P (v0,V)=(v0,V):=by unfold A2P M1 O6;rw[if_neg (by simp[z,j])]
     rw[eq]at u y;simp only[]at u y;repeat' simp only[go_sem,seval,z,nz,j]
     exact F2 [(0,.str s),(2,.box I 0),(4,.box A 0),(5,.int .i64 n),(6,.int .i64 i),(7,.int .i64 i),(9,.bool bl),(10,.int .i64 v1),(11,.str (S n1))] Hp (by simp only[go_sem,seval,u,y]) (D20 _) (G trivial)
  intro _;obtain⟨v2,b0⟩: ∃v,v=if bl=true then-v1 else v1:=⟨_,rfl⟩
  rw[←b0]at hr;have g5:S8 v2:=by rw[b0];unfold S8;split<;>omega
  apply I6 (C:=True)
  ·intro G;cases bl with
   |true=>
    rw[if_pos rfl]at b0;have w:IntKind.i64.wrap (0-v1)=v2:=by rw[b0,A4 (by omega) (by omega)];omega
    repeat' simp only[go_sem,seval,w]
    exact F2 [(0,.str s),(2,.box I 0),(4,.box A 0),(5,.int .i64 n),(6,.int .i64 i),(7,.int .i64 i),(10,.int .i64 v2),(11,.str (S n1))] Hp (by simp only[go_sem,seval]) (D20 _) (G trivial)
   |false=>
    rw[if_neg (by decide)]at b0;repeat' simp only[go_sem,seval]
    exact F2 [(0,.str s),(2,.box I 0),(4,.box A 0),(5,.int .i64 n),(6,.int .i64 i),(7,.int .i64 i),(10,.int .i64 v2),(11,.str (S n1))] Hp (by simp only[go_sem,seval,b0]) (D20 _) (G trivial)
  intro _;have e4:=Y.ex;by_cases z:n1= []
  ·rw[B72 a v2 z]at hr;repeat' (first|simp only[go_sem,seval,z,e4]|simp(disch:=omega) only[A4])
   exact C1 (i+1,i,{a with k:=v2},ob,_) ⟨by simp only[];omega,by simp only[];omega,g0,fun e=>by simp only[]at e⊢;omega,by simp only[];rw[show i+1-i-1=0 by omega];simp,Y.re _,hr,by simp only[];omega,a6,g5⟩ (by simp only[];omega) (by(try simp only[go_sem,seval])<;>(try simp(disch:=omega) [A4])) (D20 _)
  ·rw[B73 a v2 z]at hr;repeat' (first|simp only[go_sem,seval,z,e4]|(intro e8;try simp only[A6]at e8))
   rename_i bx;have i3:=e8;clear e8;refine A5V (P:=Tryz.prog) (H0:=Hp) (es:=Rw P2 a.t) i3 (by simp) Y.eo (by rw[D6]) (by simp only[D1e,D1g];omega) (by simp only[D1e,D1g];omega) fun b' H' hA=>?_;have hY:Rw P2 a.t++[[D.str (S n1),.int .i64 v2]]=Rw P2 (a.t++[⟨S n1,v2⟩]):=by rw[←P1];rfl
   rw[hY]at hA;obtain⟨f1,i4⟩:=Y.ap (m:=a.t.length+1) (D20 _) hA;repeat' (first|simp only[go_sem,seval,i4]|simp(disch:=omega) only[A4])
   have d2:(a.t++[(⟨S n1,v2⟩:LTm)]).length=a.t.length+1:=by rw[D1f];rfl
   refine C1 (i+1,i,{a with t:=a.t++[⟨S n1,v2⟩]},some b',_) ⟨by simp only[];omega,by simp only[];omega,g0,fun e=>by simp only[]at e⊢;omega,by simp only[];rw[show i+1-i-1=0 by omega];simp,?_,hr,by simp only[d2];omega,fun t ht=>?_,b9⟩ (by simp only[];omega) (by(try simp only[go_sem,seval,K6])<;>(try simp(disch:=omega) [A4])) (D20 _)
   ·simp only[d2];exact f1
   ·rcases D1z.1 ht with g|g
    ·exact a6 t g
    ·rw[D10]at g;subst g;exact⟨by simp only[J3];omega,g5⟩
 ·have d:decide ((i:Int)≤n)=false:=D1c (by omega);have i5:f=n:=f8 (by omega);rw[i5,List.drop_eq_nil_of_le (by omega),B74]at hr;have fa:S7 a:=⟨by omega,fun t ht=>by have:=(a6 t ht).1;omega,fun t ht=>(a6 t ht).2,b9⟩
  have e4:=Y.ex;have c7:=Y.le _ _ f4;have tx: ∀(Q:D→Heap→Prop),Q (.tuple [.str (if validL a=true then S (E9 a)else S []),.int .i64 (if validL a=true then 0 else 2)]) Hp→D8 116 [.agg [J8 2 a.t.length ob,.int .i64 a.k,.bool a.e]] Hp Q:=fun Q hq=>A4R (by rw[D6]) Y.eo (B4H a fa _ ⟨rfl,hq⟩);have o1:(D.one.match_1 (fun _=>Bool) (J8 2 a.t.length ob) (fun _=>false) (fun _=>false) (fun _=>false) fun _=>true)=true:=by cases ob<;>rfl
  have X:=B1h l;rw[←hr]at X;by_cases hv:validL a=true
  ·rw[if_pos hv,if_pos hv]at tx;by_cases ht:E9 a=l
   ·rw[if_pos ⟨hv,ht⟩]at X;rw[X]at h;have e9:E9 a=B s:=by rw[←hB];exact ht
    repeat' (first|simp only[go_sem,seval,d,c7,e4,e9,o1]|with_reducible refine tx _ ?_)
    cases ob with
    |none=>
     obtain⟨T,K,E⟩:=a;have hz:T= []:=D1x (by have:=congrArg List.length (show Rw P2 T= []from Y.eo);rwa [D6]at this);subst hz;exact D4 (A0j K 0 E) (D21 (F3 (b1.trans Y.le) g2) h)
    |some b'=>
     obtain⟨j,O⟩:=Y.fin b1 g2 c7;exact B18 j (by rw[D6]) (D21 O h)
   ·rw[if_neg (fun g=>ht g.2)]at X;rw[X]at h;have e9: ¬E9 a=B s:=by rw[←hB];exact ht
    repeat' (first|simp only[go_sem,seval,d,c7,e4,e9,o1]|with_reducible refine tx _ ?_)
    exact D4 (A0j 0 30 false) (D21 (F3 (b1.trans Y.le) g2) h)
  ·rw[if_neg hv,if_neg hv]at tx;rw[if_neg (fun g=>hv g.1)]at X;rw[X]at h;repeat' (first|simp only[go_sem,seval,d,c7,e4,o1]|with_reducible refine tx _ ?_)
   exact D4 (A0j 0 30 false) (D21 (F3 (b1.trans Y.le) g2) h)
end Go.Proofs.YtibphjonmikciaaGreatDoor
