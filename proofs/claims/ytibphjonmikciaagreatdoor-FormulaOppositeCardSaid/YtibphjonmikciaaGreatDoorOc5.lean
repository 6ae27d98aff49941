/- Part of the proof: what the last text builds on. No condition stands here. -/
import Derived.Test.YtibphjonmikciaaGreatDoorProg
import Derived.Test.YtibphjonmikciaaGreatDoorRows
import Derived.Test.YtibphjonmikciaaGreatDoorCards
import Derived.Test.YtibphjonmikciaaGreatDoorTie
import Derived.Test.YtibphjonmikciaaGreatDoorOc4
set_option linter.unusedSimpArgs false
set_option linter.unusedVariables false
set_option maxRecDepth 20000
namespace Go.Fo
open Go Go.Av Go.Lexs Go.Lin
def A0v:List UInt8:=[116,114,117,101]
def flsB:List UInt8:=[102,97,108,115,101]
def D8:Fm→List UInt8
 | .mk o n l s ks=>
  if o=1 then(if n=1 then A0v else flsB)
  else if o=2 then F2 l
  else if o=3 then 63::B s
  else if o=4 then 33::textH ks
  else(if o=6 then 124 else 38)::40::(textK true ks++[41])
where
 textH:List Fm→List UInt8
 | []=>[]
 |f::_=>D8 f
 textK:Bool→List Fm→List UInt8
 |_,[]=>[]
 |b,f::fs=>(if b=true then []else [44,32])++D8 f++textK false fs
theorem B27{f:Fm}(h:f.op=1):D8 f=if f.n=1 then A0v else flsB:=by
 obtain⟨o,n,l,s,ks⟩:=f;simp only[Fm.op]at h;subst h;rw[D8,if_pos rfl];rfl
theorem B28{f:Fm}(h:f.op=2):D8 f=F2 f.l:=by
 obtain⟨o,n,l,s,ks⟩:=f;simp only[Fm.op]at h;subst h;rw[D8,if_neg (by decide),if_pos rfl];rfl
theorem B29{f:Fm}(h:f.op=3):D8 f=63::B f.s:=by
 obtain⟨o,n,l,s,ks⟩:=f;simp only[Fm.op]at h;subst h;rw[D8,if_neg (by decide),if_neg (by decide),if_pos rfl];rfl
theorem B3A{f k:Fm}(h:f.op=4)(hk:f.ks= [k]):D8 f=33::D8 k:=by
 obtain⟨o,n,l,s,ks⟩:=f;simp only[Fm.op]at h;simp only[Fm.ks]at hk;subst h;subst hk;rw[D8,if_neg (by decide),if_neg (by decide),if_neg (by decide),if_pos rfl];rfl
theorem A4k{f:Fm}(h1:f.op≠1)(d:f.op≠2)(e:f.op≠3)(g:f.op≠4):D8 f=(if f.op=6 then 124 else 38)::40::(D8.textK true f.ks++[41]):=by
 obtain⟨o,n,l,s,ks⟩:=f;simp only[Fm.op]at h1 d e g;rw[D8,if_neg h1,if_neg d,if_neg e,if_neg g];rfl
theorem O6(b:Bool)(f:Fm)(fs:List Fm):D8.textK b (f::fs)=(if b=true then []else [44,32])++D8 f++D8.textK false fs:=by rw[D8.textK]
theorem B4M(b:Bool)(l m:List Fm):D8.textK b (l++m)=D8.textK b l++D8.textK (b&&l.isEmpty) m:=by
 induction l generalizing b with
 |nil=>simp[D8.textK]
 |cons f l d=>simp only[D00,O6,d,D0d,List.isEmpty_cons,Bool.and_false,Bool.false_and]
theorem A1y(l:List Fm)(i:Nat)(h:i<l.length):D8.textK true (l.take (i+1))=D8.textK true (l.take i)++((if i=0 then []else [44,32])++D8 l[i]):=by
 rw[C98 h,B4M,O6]
 congr 1
 simp only[D8.textK,D0e,Bool.true_and]
 congr 1
 cases i with
 |zero=>simp
 |succ i=>cases l with
  |nil=>simp at h
  |cons x l=>simp
def B0Y(c:UInt8):Bool:=c==44||c==41
def nst(c:UInt8):Bool:= !B0Y c
def L3(r:List UInt8):List UInt8:=r.takeWhile nst
def P7(r:List UInt8):List UInt8:=r.dropWhile nst
def pre(p r:List UInt8):Bool:=p.isPrefixOf r
def A6k(w:List UInt8):Fm×Bool:=if w=A0v then(.mk 1 1 nilL D1 [],false)else if w=flsB then(.mk 1 0 nilL D1 [],false)else(A0C (M5 w).1,decide ((M5 w).2≠0))
def A0w(form:List UInt8→Fm×List UInt8×Bool):Nat→List UInt8→List Fm→List Fm×List UInt8×Bool
 |0,r,_=>([],r,true)
 |n+1,r,out=>
  if pre [41] (form r).2.1=true then(out++[(form r).1],(form r).2.1.drop 1,(form r).2.2)
  else if(form r).2.2=true then([],(form r).2.1,true)
  else if pre [44,32] (form r).2.1=true then A0w form n ((form r).2.1.drop 2) (out++[(form r).1])
  else([],(form r).2.1,true)
def W9(form:List UInt8→Fm×List UInt8×Bool)(r:List UInt8):List Fm×List UInt8×Bool:=if pre [41] r=true then([],r.drop 1,false)else A0w form (r.length+1) r []
def G2:Nat→List UInt8→Fm×List UInt8×Bool
 |0,r=>(T1,r,true)
 |e+1,r=>
  if pre [63] r=true then(.mk 3 0 nilL (S (L3 (r.drop 1))) [],P7 (r.drop 1),false)
  else if pre [33] r=true then(.mk 4 0 nilL D1 [(G2 e (r.drop 1)).1],(G2 e (r.drop 1)).2.1,(G2 e (r.drop 1)).2.2)
  else if pre [38,40] r=true then(.mk 5 0 nilL D1 (W9 (G2 e) (r.drop 2)).1,(W9 (G2 e) (r.drop 2)).2.1,(W9 (G2 e) (r.drop 2)).2.2)
  else if pre [124,40] r=true then(.mk 6 0 nilL D1 (W9 (G2 e) (r.drop 2)).1,(W9 (G2 e) (r.drop 2)).2.1,(W9 (G2 e) (r.drop 2)).2.2)
  else((A6k (L3 r)).1,P7 r,(A6k (L3 r)).2)
def Stp(tl:List UInt8):Prop:=∀c r,tl=c::r→nst c=false
theorem B9R:Stp []:=fun c r e=>by cases e
theorem C3B(r:List UInt8):Stp (41::r):=fun c r e=>by injection e with e _;subst e;decide
theorem C3C(r:List UInt8):Stp (44::r):=fun c r e=>by injection e with e _;subst e;decide
theorem A6D{w tl:List UInt8}(h: ∀c∈w,nst c=true)(d:Stp tl):L3 (w++tl)=w∧P7 (w++tl)=tl:=R5 h d
def okC(c:UInt8):Prop:=c.toNat≠40∧c.toNat≠41∧c.toNat≠44∧c.toNat≠33∧c.toNat≠38∧c.toNat≠124∧c.toNat≠63
theorem A7Y{s:ByteArray}(h:plainB s=true): ∀c∈B s,okC c:=fun c hc=>by
 unfold plainB at h;rw[C92]at h;have:=B2c h.2 c hc;unfold A1o at this;simp only[C92,D0B]at this;unfold okC;omega
theorem B1q{c:UInt8}(h:okC c):nst c=true:=by
 unfold okC at h;unfold nst B0Y;simp only[Bool.not_eq_true',Bool.or_eq_false_iff,beq_eq_false_iff_ne,ne_eq];exact⟨fun e=>by subst e;simp at h,fun e=>by subst e;simp at h⟩
theorem A6E{s:ByteArray}(h:plainB s=true):H9 (B s)=true:=by
 unfold plainB at h;rw[C92]at h;exact h.1
theorem A1S{c:UInt8}(h:c.toNat=43∨c.toNat=45∨c.toNat=42∨c.toNat=62∨c.toNat=61∨(48≤c.toNat∧c.toNat≤57)):okC c:=by unfold okC;omega
theorem B3B{l:LinV}(hv:validL l=true)(hp: ∀t∈l.t,plainB t.v=true): ∀c∈F2 l,okC c:=by
 have key: ∀(m:List LTm) (f:Bool),(∀t∈m,plainB t.v=true)→∀c∈L0 f m,okC c:=by
  intro m
  induction m with
  |nil=>intro f _ c hc;cases hc
  |cons t m d=>
   intro f h c hc;rw[L0]at hc;rcases D0F.1 hc with g|g
   ·unfold S8 at g;rcases D0F.1 g with g|g
    ·rcases sign_or f t.c with q|q|q<;>rw[q]at g
     ·cases g
     ·rw[D0G]at g;subst g;exact A1S (by decide)
     ·rw[D0G]at g;subst g;exact A1S (by decide)
    ·rcases D0F.1 g with g|g
     ·split at g
      ·cases g
      ·rcases D0F.1 g with g|g
       ·have:=P0 _ c g;exact A1S (by omega)
       ·rw[D0G]at g;subst g;exact A1S (by decide)
     ·exact A7Y (h t (C90 ..)) c g
   ·exact d false (fun x hx=>h x (C97 _ hx)) c g
 intro c hc;unfold F2 L7 at hc;rcases D0F.1 hc with g|g
 ·rcases D0F.1 g with g|g
  ·exact key l.t true hp c g
  ·unfold Q9 at g;split at g
   ·unfold z8 at g;rcases D0F.1 g with g|g
    ·rcases sign_or l.t.isEmpty l.k with q|q|q<;>rw[q]at g
     ·cases g
     ·rw[D0G]at g;subst g;exact A1S (by decide)
     ·rw[D0G]at g;subst g;exact A1S (by decide)
    ·have:=P0 _ c g;exact A1S (by omega)
   ·cases g
 ·split at g
  ·simp only[D0H,D0I,or_false]at g;rcases g with rfl|rfl<;>exact A1S (by decide)
  ·simp only[D0H,D0I,or_false]at g;rcases g with rfl|rfl|rfl<;>exact A1S (by decide)
theorem B6r(l:LinV):(61:UInt8)∈F2 l:=by
 unfold F2;split<;>simp
theorem B1r(l:LinV):F2 l≠[]:=fun h=>by have:=B6r l;rw[h]at this;cases this
theorem B3C(l:LinV):F2 l≠A0v∧F2 l≠flsB:=by
 have:=B6r l;exact⟨fun h=>by rw[h]at this;revert this;decide,fun h=>by rw[h]at this;revert this;decide⟩
theorem S0(c d:UInt8)(r:List UInt8):pre [c] (d::r)=(c==d):=by simp[pre,List.isPrefixOf]
theorem A5E(c e d:UInt8)(r:List UInt8):pre [c,e] (d::r)=(c==d&&pre [e] r):=by simp[pre,List.isPrefixOf]
theorem B6s{c:UInt8}{r:List UInt8}(h:okC c):pre [63] (c::r)=false∧pre [33] (c::r)=false∧pre [38] (c::r)=false∧pre [124] (c::r)=false∧pre [38,40] (c::r)=false∧pre [124,40] (c::r)=false∧pre [41] (c::r)=false:=by
 unfold okC at h;have k: ∀d:UInt8,c.toNat≠d.toNat→(d==c)=false:=fun d g=>by
  rw[beq_eq_false_iff_ne];intro e;exact g (by rw[e])
 simp only[S0,A5E,k 63 h.2.2.2.2.2.2,k 33 h.2.2.2.1,k 38 h.2.2.2.2.1,k 124 h.2.2.2.2.2.1,k 41 h.2.1,Bool.false_and,and_self]
theorem A7Z{f:Fm}(g:G8 D5 f=true): ∃c r,D8 f=c::r∧c≠41:=by
 cases Q4 g with
 |con n h=>
  rw[B27 rfl];split
  ·exact⟨_,_,rfl,by decide⟩
  ·exact⟨_,_,rfl,by decide⟩
 |lin l h hp=>
  rw[B28 rfl];have hm:=B3B h hp;show∃c r,F2 l=c::r∧c≠41;cases d:F2 l with
  |nil=>exact absurd d (B1r l)
  |cons c r=>
   have:=hm c (by rw[d];exact C90 ..);exact⟨c,r,rfl,fun e=>by subst e;unfold okC at this;simp at this⟩
 |var s h=>rw[B29 rfl];exact⟨_,_,rfl,by decide⟩
 |not k=>rw[B3A rfl rfl];exact⟨_,_,rfl,by decide⟩
 |and ks=>rw[A4k (by simp[Fm.op]) (by simp[Fm.op]) (by simp[Fm.op]) (by simp[Fm.op])];exact⟨_,_,rfl,by show (38:UInt8)≠41;decide⟩
 |or ks=>rw[A4k (by simp[Fm.op]) (by simp[Fm.op]) (by simp[Fm.op]) (by simp[Fm.op])];exact⟨_,_,rfl,by show (124:UInt8)≠41;decide⟩
theorem B4O(ks:List Fm)(h: ∀k∈ks,G8 D5 k=true): ∀b,ks.length≤(D8.textK b ks).length:=by
 induction ks with
 |nil=>intro b;simp
 |cons f fs d=>
  intro b;obtain⟨c,r,hc,_⟩:=A7Z (h f (C90 ..));have:=d (fun k hk=>h k (C97 _ hk)) false;rw[O6,hc];simp only[C9v,C9u];omega
theorem B1s(d:List UInt8→Fm×List UInt8×Bool)(tl:List UInt8): ∀(ks:List Fm),ks≠[]→(∀k∈ks,∀tl,Stp tl→d (D8 k++tl)=(k,tl,false))→∀n out,ks.length≤n→A0w d n (D8.textK true ks++(41::tl)) out=(out++ks,tl,false):=by
 intro ks
 induction ks with
 |nil=>intro h;exact absurd rfl h
 |cons k ks i=>
  intro _ hk n out hn;obtain⟨n,rfl⟩: ∃m,n=m+1:=⟨n-1,by simp only[C9u]at hn;omega⟩
  rw[A0w,O6];simp only[if_true,D01];cases ks with
  |nil=>
   have e:=hk k (C90 ..) (41::tl) (C3B _);simp only[D8.textK,D0e];rw[e];simp only[S0,beq_self_eq_true,if_true,List.drop_succ_cons,List.drop_zero]
  |cons g ks=>
   have e:=hk k (C90 ..) (44::32::(D8.textK true (g::ks)++(41::tl))) (C3C _);have e2:D8.textK false (g::ks)=44::32::D8.textK true (g::ks):=by rw[O6,O6];simp
   rw[e2];simp only[D00,D0d];rw[e];have j:pre [41] (44::32::(D8.textK true (g::ks)++(41::tl)))=false:=by rw[S0];decide
   have o:pre [44,32] (44::32::(D8.textK true (g::ks)++(41::tl)))=true:=by rw[A5E,S0];decide
   simp only[j,o,C95,if_false,if_true,List.drop_succ_cons,List.drop_zero];rw[i (by simp) (fun x hx=>hk x (C97 _ hx)) n _ (by simp only[C9u]at hn⊢;omega)];simp
theorem B1t: ∀(f:Fm),G8 D5 f=true→∀e,P3 f≤e→∀tl,Stp tl→G2 e (D8 f++tl)=(f,tl,false):=by
 intro f
 induction f using P2 with
 |h o n l s ks J=>
  intro L e he tl m;have hk: ∀k∈ks,G8 D5 k=true:=fun k hk=>N8 (f:=.mk o n l s ks) L hk;obtain⟨e,rfl⟩: ∃d,e=d+1:=⟨e-1,by have:=((B0A _ e).1 he).1;omega⟩
  have M: ∀k∈ks,P3 k≤e:=fun k hm=>by have:=((B0A _ _).1 he).2 k hm;omega
  have q: ∀p,(∀k∈ks,G8 D5 k=true)→(p=38∨p=124)→W9 (G2 e) ((p::40::(D8.textK true ks++[41])++tl).drop 2)=(ks,tl,false):=by
   intro p hk hp;simp only[D00,List.drop_succ_cons,List.drop_zero,D0d,D01];unfold W9;cases ks with
   |nil=>simp only[D8.textK,D01,S0,beq_self_eq_true,if_true,List.drop_succ_cons,List.drop_zero]
   |cons k ks=>
    obtain⟨c,r,hc,u⟩:=A7Z (hk k (C90 ..));have hp:pre [41] (D8.textK true (k::ks)++(41::tl))=false:=by
     rw[O6,hc];simp only[if_true,D01,D00,S0,beq_eq_false_iff_ne,ne_eq];exact fun e=>u e.symm
    rw[hp];simp only[C95,if_false];rw[B1s (G2 e) tl (k::ks) (by simp) (fun x hx tl m=>J x hx (hk x hx) e (M x hx) tl m) _ _ (by
     have:=B4O (k::ks) hk true;rw[C9v];omega)]
    rfl
  cases Q4 L with
  |con n h=>
   rw[B27 rfl];have g: ∀w,(w=A0v∨w=flsB)→pre [63] (w++tl)=false∧pre [33] (w++tl)=false∧pre [38,40] (w++tl)=false∧pre [124,40] (w++tl)=false∧L3 (w++tl)=w∧P7 (w++tl)=tl:=by
    intro w hw;have h1: ∀c∈w,okC c:=by
     rcases hw with rfl|rfl<;> · intro c hc;revert c;unfold okC;decide
    obtain⟨c,r,hc⟩: ∃c r,w=c::r:=by rcases hw with rfl|rfl<;>exact⟨_,_,rfl⟩
    have i:=A6D (w:=w) (tl:=tl) (fun c hc=>B1q (h1 c hc)) m;have j:=B6s (c:=c) (r:=r++tl) (h1 c (by rw[hc];exact C90 ..));rw[hc]at i⊢;exact⟨j.1,j.2.1,j.2.2.2.2.1,j.2.2.2.2.2.1,i.1,i.2⟩
   rw[G2];rcases h with rfl|rfl
   ·obtain⟨y,z,A,C,G,I⟩:=g flsB (.inr rfl);show (if pre [63] (flsB++tl)=true then(.mk 3 0 nilL (S (L3 ((flsB++tl).drop 1))) [],P7 ((flsB++tl).drop 1),false)else if pre [33] (flsB++tl)=true then(.mk 4 0 nilL D1 [(G2 e ((flsB++tl).drop 1)).1],(G2 e ((flsB++tl).drop 1)).2.1,(G2 e ((flsB++tl).drop 1)).2.2)else if pre [38,40] (flsB++tl)=true then _ else if pre [124,40] (flsB++tl)=true then _ else((A6k (L3 (flsB++tl))).1,P7 (flsB++tl),(A6k (L3 (flsB++tl))).2))=_;rw[y,z,A,C,G,I];rfl
   ·obtain⟨y,z,A,C,G,I⟩:=g A0v (.inl rfl);show (if pre [63] (A0v++tl)=true then(.mk 3 0 nilL (S (L3 ((A0v++tl).drop 1))) [],P7 ((A0v++tl).drop 1),false)else if pre [33] (A0v++tl)=true then(.mk 4 0 nilL D1 [(G2 e ((A0v++tl).drop 1)).1],(G2 e ((A0v++tl).drop 1)).2.1,(G2 e ((A0v++tl).drop 1)).2.2)else if pre [38,40] (A0v++tl)=true then _ else if pre [124,40] (A0v++tl)=true then _ else((A6k (L3 (A0v++tl))).1,P7 (A0v++tl),(A6k (L3 (A0v++tl))).2))=_;rw[y,z,A,C,G,I];rfl
  |lin l h hp=>
   rw[B28 rfl];show G2 (e+1) (F2 l++tl)=_;have hm:=B3B h hp;obtain⟨c,r,hc⟩: ∃c r,F2 l=c::r:=by
    cases m:F2 l with
    |nil=>exact absurd m (B1r l)
    |cons c r=>exact⟨c,r,rfl⟩
   have i:=A6D (w:=F2 l) (tl:=tl) (fun c hc=>B1q (hm c hc)) m;have j:=B6s (c:=c) (r:=r++tl) (hm c (by rw[hc];exact C90 ..));have u:F2 l++tl=c::(r++tl):=by rw[hc];rfl
   rw[G2,i.1,i.2,u,j.1,j.2.1,j.2.2.2.2.1,j.2.2.2.2.2.1];simp only[C95,if_false];unfold A6k;rw[if_neg (B3C l).1,if_neg (B3C l).2];have:M5 (F2 l)=(l,0):=by unfold M5;rw[A9t l h]
   rw[this];rfl
  |var s h=>
   rw[B29 rfl];show G2 (e+1) (63::(B s++tl))=_;have hm:=A7Y h;have i:=A6D (w:=B s) (tl:=tl) (fun c hc=>B1q (hm c hc)) m;rw[G2];simp only[S0,beq_self_eq_true,if_true,List.drop_succ_cons,List.drop_zero];rw[i.1,i.2,S_B]
  |not k=>
   rw[B3A rfl rfl];show G2 (e+1) (33::(D8 k++tl))=_;have:=J k (C90 ..) (hk k (C90 ..)) e (M k (C90 ..)) tl m;rw[G2];simp only[S0,beq_self_eq_true,if_true,List.drop_succ_cons,List.drop_zero];rw[this];rfl
  |and ks=>
   rw[A4k (by simp[Fm.op]) (by simp[Fm.op]) (by simp[Fm.op]) (by simp[Fm.op])];show G2 (e+1) ((38:UInt8)::40::(D8.textK true ks++[41])++tl)=_;rw[G2,q 38 hk (.inl rfl)];simp only[D00,S0,A5E];rfl
  |or ks=>
   rw[A4k (by simp[Fm.op]) (by simp[Fm.op]) (by simp[Fm.op]) (by simp[Fm.op])];show G2 (e+1) ((124:UInt8)::40::(D8.textK true ks++[41])++tl)=_;rw[G2,q 124 hk (.inr rfl)];simp only[D00,S0,A5E];rfl
def okF(f:Fm)(s:List UInt8):Fm×Int:=if E5 f=true∧D8 f=s then(f,0)else(T1,30)
def A20(s:List UInt8):Fm×Int:=if s.length > 20000 then(T1,3)else if(G2 60 s).2.2=true∨(G2 60 s).2.1≠[]then(T1,30)else okF (G2 60 s).1 s
theorem B1u{f:Fm}(h:E5 f=true):P3 f≤60:=by
 rw[A2Q]at h;simp only[C92,D0B]at h;exact h.1.1.1.2
theorem B4P{f:Fm}(h:E5 f=true):G2 60 (D8 f)=(f,[],false):=by
 have:=B1t f (L5 h) 60 (B1u h) [] B9R;simpa using this
theorem A6F{f:Fm}(h:E5 f=true)(hl:(D8 f).length≤20000):A20 (D8 f)=(f,0):=by
 unfold A20;rw[if_neg (by omega),B4P h];simp only[C95,ne_eq,not_true,or_self,if_false];unfold okF;rw[if_pos ⟨h,rfl⟩]
abbrev BS:=List (ByteArray×Bool)
def bsC(bs:BS):List (D×D):=bs.map fun p=>(.str p.1,.bool p.2)
def A8Z:BS→ByteArray→Option Bool
 | [],_=>none
 |p::l,s=>if s=p.1 then some p.2 else A8Z l s
def A1T:BS→ByteArray→Bool→BS
 | [],s,v=>[(s,v)]
 |p::l,s,v=>if s=p.1 then(s,v)::l else p::A1T l s v
theorem find_bsC(s:ByteArray): ∀(bs:BS) (i:Nat),(A8Z bs s=none∧O8 (.one .str) (.str s) (bsC bs) i=some none∧∀v,A1T bs s v=bs++[(s,v)])∨∃j,∃b,j<bs.length∧A8Z bs s=some b∧O8 (.one .str) (.str s) (bsC bs) i=some (some (i+j,.bool b))∧∀v,A1T bs s v=bs.set j (s,v)
 | [],i=>.inl ⟨rfl,rfl,fun _=>rfl⟩
 |(t,x)::l,i=>by
  have e:A4T (.one .str) (.str s) (.str t)=some (decide (s=t)):=by
   rw[A4T,T8]
   congr 1
   rw[Bool.eq_iff_iff,beq_iff_eq,D0B];exact⟨fun g=>i7 g,fun g=>by rw[g]⟩
  rw[show bsC ((t,x)::l)=(.str t,.bool x)::bsC l from rfl,O8];simp only[e,D0J,D0B,A8Z,A1T];by_cases c:s=t
  ·subst c;rw[if_pos rfl,if_pos rfl];exact .inr ⟨0,x,by simp,rfl,rfl,fun v=>by rw[if_pos rfl];rfl⟩
  ·rw[if_neg c,if_neg c];rcases find_bsC s l (i+1)with⟨h1,d,h⟩|⟨j,b,h1,d,h,m⟩
   ·exact .inl ⟨h1,d,fun v=>by rw[if_neg c,h];rfl⟩
   ·exact .inr ⟨j+1,b,by simpa using h1,d,by rw[h];congr 3;omega,fun v=>by rw[if_neg c,m];rfl⟩
theorem B9S(s:ByteArray)(v:Bool)(bs:BS):(O8 (.one .str) (.str s) (bsC bs) 0).map (fun r=>A5R (bsC bs) (.str s) (.bool v) r)=some (bsC (A1T bs s v)):=by
 rcases find_bsC s bs 0 with⟨h1,e,d⟩|⟨j,b,h1,e,d,g⟩
 ·rw[e,d];show some (bsC bs++[(.str s,.bool v)])=_;unfold bsC;rw[D0p];rfl
 ·rw[d,g];show some ((bsC bs).set (0+j) (.str s,.bool v))=_;unfold bsC;rw[Nat.zero_add,List.map_set]
theorem A3c{H:Heap}{b:Nat}(s:ByteArray)(v:Bool)(bs:BS):(O8 (.one .str) (.str s) (bsC bs) 0).map (fun r=>H.set b (.map (A5R (bsC bs) (.str s) (.bool v) r)))=some (H.set b (.map (bsC (A1T bs s v)))):=by
 have:=congrArg (Option.map fun m=>H.set b (.map m)) (B9S s v bs);rw[Option.map_map]at this;exact this
def B0Z(f:Fm):Nat:=if f.op=6 then 1 else 0
def B1v(cs:List LinV):Option Bool:=if cs.all validL=true∧cs.length≤1000 then C05 cs else none
def B4Q(rec:Fm→Option Bool):List Fm→Option Bool
 | []=>some false
 |k::l=>match rec k,B4Q rec l with
  |some a,some b=>some (a||b)
  |_,_=>none
def A5F(rec:List LinV→BS→List Fm→Option Bool)(cs:List LinV)(bs:BS)(ks l:List Fm):Option Bool:=
 if l.length≤1∧ks.length≤1000 then
  if l≠[]∧B0Z (l.headD T1)=0 then rec cs bs (l++[.mk 6 0 nilL D1 ks])
  else match B1v cs with
   |none=>none
   |some false=>some false
   |some true=>B4Q (fun k=>rec cs bs (k::l)) ks
 else none
def V5:Nat→List LinV→BS→List Fm→Option Bool
 |0,_,_,_=>none
 |n+1,cs,bs,l=>match l with
  | []=>B1v cs
  |f::l=>
   if 1000<cs.length∨1000<l.length∨1000<f.ks.length then none
   else if f.op=1 then(if f.n=0 then some false else V5 n cs bs l)
   else if f.op=2 then V5 n (cs++[f.l]) bs l
   else if f.op=3 then(if A8Z bs f.s=some false then some false else V5 n cs (A1T bs f.s true) l)
   else if f.op=4 then(if f.ks= []then none else if A8Z bs (f.ks.headD T1).s=some true then some false else V5 n cs (A1T bs (f.ks.headD T1).s false) l)
   else if f.op=5 then V5 n cs bs (f.ks++l)
   else if f.op=6 then A5F (V5 n) cs bs f.ks l
   else none
def V6(f:Fm)(more:List LinV):Option Bool:=V5 60 more [] [normF f false]
end Go.Fo
namespace Go.Proofs.YtibphjonmikciaaGreatDoor
open Go Go.Av Go.Lin Go.Fo
attribute [local irreducible] ACalls W4
theorem C3D{Q}(p:LTm→Bool)(l:List LTm)(hl:l.length≤1000000000000000)(g:Nat)(first cap:List D)(H:Heap)
  (i: ∀a∈l,∀(Q:D→Heap→Prop),Q (.bool (p a)) H→D7 g (first++[.agg (Q7 a)]++cap) H Q) (h:Q (.int .i64 (V3 p l)) H):
  D7 136 [.sl 2 (Rw Q7 l),.fn (.func g) first cap] H Q:=by
 refine A8 [] A5 Tryz.func136 rfl ?_;simp only[go_sem,seval,Tryz.results136];refine C9 [0,1,7] (fun(k:Nat)=>[(8,.int .i64 k)]) (fun(k:Nat)=>H) (fun(k:Nat)=>k≤l.length∧V3 p l=if V3 p (l.drop k)<0 then-1 else V3 p (l.drop k)+k) (fun(k:Nat)=>l.length-k) (0) (⟨D0A _,by have:=A1Q p l;rw[List.drop_zero];split<;>omega⟩) (by(try simp only[go_sem,seval])<;>(try simp(disch:=omega) [A4])) (by first|exact D1G _|exact A0 (by assumption)|exact B2 (by assumption)|simp only[Heap.Le,Heap.set,Heap.del]at* <;>grind) ?_;rintro m rfl k ⟨hk,hp⟩;by_cases d:k<l.length
 ·have e:decide ((k:Int)<l.length)=true:=C9r (by omega);rw[A4G p l k d]at hp;repeat' (first|with_reducible apply C9p|simp only[go_sem,seval,e,A9 _ _ d]|simp(disch:=omega) only[A4,A9,D0]|intro j|with_reducible refine i l[k] (C93 d) _ ?_|omega)
  ·have h1:p l[k]=true:=by assumption
   rw[if_pos h1]at hp;simp only[Int.zero_add,show¬((0:Int)<0)by omega,if_false]at hp;rw[hp]at h;exact D1K h
  ·have h1: ¬p l[k]=true:=by simp_all
   rw[if_neg h1]at hp;exact C2 (k+1) ⟨by omega,by rw[hp];have:=A1Q p (l.drop (k+1));split<;>split<;>omega⟩ (by omega) (by(try simp only[go_sem,seval])<;>(try simp(disch:=omega) [A4])) (D1G _)
 ·have e:decide ((k:Int)<l.length)=false:=C9s (by omega);rw[List.drop_eq_nil_of_le (by omega),V3]at hp;repeat' simp only[go_sem,seval,e]
  simp only[show ((-1:Int)<0)by omega,if_true]at hp;rw[hp]at h;exact D1K h
theorem C3E{Q}(p:LTm→Bool)(l:List LTm)(hl:l.length≤1000000000000000)(g:Nat)(first cap:List D)(H:Heap)
  (d: ∀a∈l,∀(Q:D→Heap→Prop),Q (.bool (p a)) H→D7 g (first++[.agg (Q7 a)]++cap) H Q) (h:Q (.bool (l.any p)) H):
  D7 97 [.sl 2 (Rw Q7 l),.fn (.func g) first cap] H Q:=by
 refine A8 [] A5 Tryz.func97 rfl ?_;simp only[go_sem,seval,Tryz.results97];rw[←A3a]at h;repeat' (first|simp only[go_sem,seval]|with_reducible refine C3D p l hl g first cap _ d ?_)
 exact D1K h
theorem C3F{Q}(p:Fm→Bool)(l:List Fm)(hl:l.length≤1000000000000000)(g:Nat)(first cap:List D)(H:Heap)
  (i: ∀(k:Nat) (hk:k<l.length),(∀(j:Nat) (hj:j<k),p l[j]=false)→∀(Q:D→Heap→Prop),Q (.bool (p l[k])) H→D7 g (first++[.agg (C0 l[k])]++cap) H Q) (h:Q (.int .i64 (V3 p l)) H):
  D7 140 [.sl 7 (Rw C0 l),.fn (.func g) first cap] H Q:=by
 refine A8 [] A5 Tryz.func140 rfl ?_;simp only[go_sem,seval,Tryz.results140];refine C9 [0,1,7] (fun(k:Nat)=>[(8,.int .i64 k)]) (fun(k:Nat)=>H) (fun(k:Nat)=>k≤l.length∧(∀(j:Nat) (hj:j<l.length),j<k→p l[j]=false)∧V3 p l=if V3 p (l.drop k)<0 then-1 else V3 p (l.drop k)+k) (fun(k:Nat)=>l.length-k) (0) (⟨D0A _,fun _ _ h=>absurd h (Nat.not_lt_zero _),by have:=A1Q p l;rw[List.drop_zero];split<;>omega⟩) (by(try simp only[go_sem,seval])<;>(try simp(disch:=omega) [A4])) (by first|exact D1G _|exact A0 (by assumption)|exact B2 (by assumption)|simp only[Heap.Le,Heap.set,Heap.del]at* <;>grind) ?_;rintro q rfl k ⟨hk,hb,hp⟩;by_cases d:k<l.length
 ·have e:decide ((k:Int)<l.length)=true:=C9r (by omega);rw[A4G p l k d]at hp;repeat' (first|with_reducible apply C9p|simp only[go_sem,seval,e,A9 _ _ d]|simp(disch:=omega) only[A4,A9,D0]|intro m|with_reducible refine i k d (fun j hj=>hb j (by omega) hj) _ ?_|omega)
  ·have h1:p l[k]=true:=by assumption
   rw[if_pos h1]at hp;simp only[Int.zero_add,show¬((0:Int)<0)by omega,if_false]at hp;rw[hp]at h;exact D1K h
  ·have h1: ¬p l[k]=true:=by simp_all
   rw[if_neg h1]at hp;refine C2 (k+1) ⟨by omega,fun j hj o=>?_,by rw[hp];have:=A1Q p (l.drop (k+1));split<;>split<;>omega⟩ (by omega) (by(try simp only[go_sem,seval])<;>(try simp(disch:=omega) [A4])) (D1G _);rcases Nat.lt_or_ge j k with g|g
   ·exact hb j hj g
   ·have:j=k:=by omega
    subst this;simpa using h1
 ·have e:decide ((k:Int)<l.length)=false:=C9s (by omega);rw[List.drop_eq_nil_of_le (by omega),V3]at hp;repeat' simp only[go_sem,seval,e]
  simp only[show ((-1:Int)<0)by omega,if_true]at hp;rw[hp]at h;exact D1K h
theorem A8a{Q}(p:Fm→Bool)(l:List Fm)(hl:l.length≤1000000000000000)(g:Nat)(first cap:List D)(H:Heap)
  (d: ∀(k:Nat) (hk:k<l.length),(∀(j:Nat) (hj:j<k),p l[j]=false)→∀(Q:D→Heap→Prop),Q (.bool (p l[k])) H→D7 g (first++[.agg (C0 l[k])]++cap) H Q) (h:Q (.bool (l.any p)) H):
  D7 108 [.sl 7 (Rw C0 l),.fn (.func g) first cap] H Q:=by
 refine A8 [] A5 Tryz.func108 rfl ?_;simp only[go_sem,seval,Tryz.results108];rw[←A3a]at h;repeat' (first|simp only[go_sem,seval]|with_reducible refine C3F p l hl g first cap _ d ?_)
 exact D1K h
end Go.Proofs.YtibphjonmikciaaGreatDoor
namespace Go.Av
theorem A8b{P:Program}{f:Nat}(Z:List (Nat×Rc)){fn:Func}{M o rest:Code}{id s p r t t' e sz:Nat}{ops:Array Oper}{o1 o2:Oper}{args:List D}{H:Heap}{Q:D→Heap→Prop}(hm:P.follows .mixedOrders=true)(hf:P.funcs[f]? =some fn)
  (hb:fn.body=some (.seq M (.seq (.seq (.region id ops false) o) rest))) (U:A1c P f=true) (hn:args.length≤fn.ntmps) (ho:ops.toList= [o1,o2]) (V:o1.dst=some s) (y:o1.op= .move (.tmp p)) (W:o1.guard=none)
  (X:o2.dst=some r) (z:o2.op= .binOp .eql t (.tmp s) (.const (.slice none 0 0)) t') (Y:o2.guard=none) (hs:s<fn.ntmps) (hr:r<fn.ntmps) (A:P.underlying t=some (.slice e)) (a0:N1 P [] fn.ntmps M=true) (C:N1 P Z fn.ntmps o=true) (G:N1 P Z fn.ntmps rest=true)
  (h:wp P [] M (fun x E H=>x= .normal∧E.get p= .sl sz []∧∀b:Bool,wp P Z (.seq o rest) (A7z P fn.results.toList Q) ((E.put (some s) (.sl sz [])).put (some r) (.bool b)) H) (U6 0 args) H):ACalls P f args H Q:=by
 refine⟨U,fun w vs hl hR hS=>calls_of_wp hf hb ?_⟩;have hst:St fn.ntmps w H (U6 0 args) H {tmps:=vs++Array.replicate (fn.ntmps-vs.size) undef,defers:=[]} w:=by
  refine⟨by simp;omega,rfl,fun i=>?_,hS,D1N _ _,D1M _ _⟩;rw[t8,if_pos (D0A _),Nat.sub_zero];cases hi:args[i]? with
  |none=>exact .undef _
  |some d=>
   have b2:=(C9z.1 hi).1;have:({tmps:=vs++Array.replicate (fn.ntmps-vs.size) undef,defers:=[]}:Act).eval (.tmp i)=vs.getD i undef:=by
    simp only[Act.eval];exact F7 (by omega)
   rw[this];exact hR i d hi
 have fin: ∀(x:AX) (E:Env) (H':Heap) (a:Act) (w':World),(x= .normal∨x= .ret)→St fn.ntmps w H E H' a w'→A7z P fn.results.toList Q x E H'→
   a.defers= []∧∃v,(results fn a.tmps).run P w'= .ok v w'∧∃v',Ending.returned v= .returned v'∧Post H w Q v' w':=by
  intro x E H' a w' hx g hq;have a4: ∃r,A2k P fn.results.toList E H'=some r∧∃O T,Shift H' r O T∧Q T O:=by rcases hx with rfl|rfl<;>exact hq
  obtain⟨r,hr,O,T,a5,hQ⟩:=a4;obtain⟨v,hv,a6⟩:=A2F (P:=P) g hr;obtain⟨k1,k2,k3⟩:=a5 _ _ a6 g.sat;exact⟨g.defers,v,hv,v,rfl,T,O,k1,k2,g.ext,fun k hk hn=>k3 k (g.frm k hk hn),hQ⟩
 refine Go.wp_seq (Go.wp_mono (t7 hm M _ _ _ _ _ a0 h hst) fun x a w' he=>?_);cases x with
 |normal=>
  obtain⟨E,H',g,_,hp,hq⟩:=he;refine Go.wp_seq (Go.wp_seq (o9 (F:=none) (K:=fun a' I=>∃b:Bool,St fn.ntmps w H ((E.put (some s) (.sl sz [])).put (some r) (.bool b)) H' a' I) (fun a' I hk=>?_) ?_))
  ·obtain⟨b,J⟩:=hk;refine Go.wp_mono (t7 hm o _ _ _ _ _ C (hq b) J) fun x a w' he=>?_;cases x with
   |normal=>
    obtain⟨E,H',g,hq⟩:=he;refine Go.wp_mono (t7 hm rest _ _ _ _ _ G hq g) fun x a w' he=>?_;cases x with
    |normal=>obtain⟨E,H',g,hq⟩:=he;exact fin .normal E H' a w' (.inl rfl) g hq
    |ret=>obtain⟨E,H',g,hq⟩:=he;exact fin .ret E H' a w' (.inr rfl) g hq
    |exit id=>obtain⟨E,H',g,hq⟩:=he;exact hq.elim
    |_=>exact he.elim
   |ret=>obtain⟨E,H',g,hq⟩:=he;exact fin .ret E H' a w' (.inr rfl) g hq
   |exit id=>obtain⟨E,H',g,hq⟩:=he;exact hq.elim
   |_=>exact he.elim
  ·rw[ho];unfold wpA;rw[if_pos (by simp[Region.wanted,W])];have hv:=g.env p;rw[hp]at hv;unfold opSem;rw[y];refine⟨a.eval (.tmp p),fun w2=>?_,?_⟩
   ·simp only[execOp,y];rfl
   ·have j:St fn.ntmps w H (E.put (some s) (.sl sz [])) H' (a.put o1.dst (a.eval (.tmp p))) w':=by
     rw[V];exact g.put (fun t A=>by cases A;exact hs) hv g.sat (D1N _ _) (D1M _ _)
    show wpA P none ops _ [o2] (a.put o1.dst (a.eval (.tmp p))) w';unfold wpA;rw[if_pos (by simp[Region.wanted,Y])];have q:=j.env s;have a9:(E.put (some s) (D.sl sz [])).get s= .sl sz []:=by simp[Env.put,Env.get]
    rw[a9]at q;obtain⟨m,cap,L⟩: ∃m cap,(a.put o1.dst (a.eval (.tmp p))).eval (.tmp s)= .slice m 0 cap:=by
     revert q;generalize (a.put o1.dst (a.eval (.tmp p))).eval (.tmp s)=v;intro q;cases q with
     |sl0 _ m cap=>exact⟨m,cap,rfl⟩
     |sl _ _ b off cap u=>exact⟨_,_,rfl⟩
    unfold opSem;rw[z];refine⟨.bool m.isNone,fun w2=>?_,m.isNone,?_⟩
    ·have b0:Runs P (do eqGuard .eql t (.tmp s) (.const (.slice none 0 0)) (.slice m 0 cap) (.slice none 0 0);binOp .eql t (.slice m 0 cap) (.slice none 0 0)) (.bool m.isNone):=(I7 ⟨by simp,by simp⟩).bind (fun w=>by
      simp only[binOp];simp[run_equal_slice_nil w t e m 0 cap A])
     have b1:(a.put o1.dst (a.eval (.tmp p))).eval (.const (.slice none 0 0))= .slice none 0 0:=rfl;simp only[execOp,z];rw[L,b1,Sem.run_bind,b0 w2];rfl
    ·rw[X];exact j.put (fun t A=>by cases A;exact hr) (.bool _) j.sat (D1N _ _) (D1M _ _)
 |exit id=>obtain⟨E,H',g,hq⟩:=he;exact absurd hq.1 (by simp)
 |ret=>obtain⟨E,H',g,hq⟩:=he;exact absurd hq.1 (by simp)
 |_=>exact he.elim
end Go.Av
namespace Go.Proofs.YtibphjonmikciaaGreatDoor
open Go Go.Av Go.Lexs Go.Lin Go.Fo
attribute [local irreducible] ACalls W4
noncomputable def C06:Array Oper:=match Tryz.f91.body with|some (.seq _ (.seq (.seq (.region _ ops _) _) _))=>ops|_=> #[]
theorem B6t{Q}(l:List LTm)(hc:l≠[])(hl:l.length≤5864062014639)(H:Heap)(h:Q (.sl 2 (Rw Q7 l)) H):D7 91 [.sl 2 (Rw Q7 l)] H Q:=by
 have i:Rw Q7 l≠[]:=fun e=>hc (D0D (by rw[←D6 (f:=Q7),e];rfl));refine A8 [] A5 Tryz.func91 rfl ?_;simp only[go_sem,seval,Tryz.results91];have hq: ∀(x:Nat),K1 Tryz.prog .eql 23 (J9 (.tmp x)||J9 (.const (.slice none 0 0))) (.sl 2 (Rw Q7 l)) .nilsl=some (.bool false):=fun x=>A5k i (by kernel_rfl);repeat' (first|with_reducible apply C9p|simp only[go_sem,seval,hq]|intro d|omega)
 rename_i o m j;have g:=d;clear d;rw[E9 m]at g⊢;exact Fin.out (ob:=some j) (es:=Rw Q7 l) (by rw[D6]) (A2 _ _) (D1H (by show H.Le ((H.set j _).del j);rw[E9 g];exact D1G _) h)
theorem B6u{Q}(l:List LTm)(hl:l.length≤5864062014639)(H:Heap)(h:Q (.sl 2 (Rw Q7 l)) H):D7 91 [.sl 2 (Rw Q7 l)] H Q:=by
 by_cases hc:l= []
 ·subst hc;obtain⟨o1,o2,ho,a1,a2,a3,i,j,m⟩: ∃o1 o2,C06.toList= [o1,o2]∧o1.dst=some 3∧o1.op= .move (.tmp 0)∧o1.guard=none∧o2.dst=some 4∧o2.op= .binOp .eql 23 (.tmp 3) (.const (.slice none 0 0)) 23∧o2.guard=none:=by
   refine⟨_,_,rfl,?_⟩;exact⟨rfl,rfl,rfl,rfl,rfl,rfl⟩
  refine A8b (ops:=C06) [] (sz:=2) A5 Tryz.func91 rfl (by kernel_rfl) (C9q (by kernel_rfl)) ho a1 a2 a3 i j m (C9q (by kernel_rfl)) (C9q (by kernel_rfl)) (e:=114) (by kernel_rfl) (by kernel_rfl) (by kernel_rfl) (by kernel_rfl) ?_;simp only[go_sem,seval,Tryz.results91];refine⟨rfl,fun b=>⟨fun _=>E3 (.nil 2) (D1K h),fun _ p o g d=>?_⟩⟩;rw[E9 o]at d⊢;exact Fin.out (ob:=some g) (n:=0) (es:=Rw Q7 []) rfl (A2 _ _) (D1H (by show H.Le ((H.set g _).del g);rw[E9 d];exact D1G _) h)
 ·exact B6t l hc hl H h
theorem B9T(n:Nat): ∀{Q} (f:Fm) (hn:SizeOf.sizeOf f≤n) (U:FmFit f) (H:Heap) (h:Q (.agg (C0 f)) H),D7 49 [.agg (C0 f)] H Q:=by
 induction n with
 |zero=>intro Q f hn;cases f;simp at hn
 |succ n ih=>
 intro Q f hn U H h;refine A8 [(7,.par)] A5 Tryz.func49 rfl ?_;simp only[go_sem,seval,Tryz.results49];have b3:=U.kl;intro d W u V;simp only[A6]at V;obtain⟨Z,hZ⟩: ∃Z:List D,Z= [.int .i64 0,.int .i64 0,.nilsl,.int .i64 0,.bool false,.str ⟨#[]⟩,.nilsl]:=⟨_,rfl⟩
 rw[←hZ];have z:d≠u:=fun e=>V.1 e.symm;have e1:((H.set d (.box (C0 f))).set u (.box Z)) d=some (.box (C0 f)):=by rw[A3 _ z,A2]
 have e2:((H.set d (.box (C0 f))).set u (.box Z)) u=some (.box Z):=A2 _ _;have I:H.Le ((H.set d (.box (C0 f))).set u (.box Z)):=(A0 W).trans (A0 (by simp only[A6];exact V));generalize (H.set d (.box (C0 f))).set u (.box Z)=Bs at e1 e2 I⊢;have s1:Bs.set d (.box (C0 f))=Bs:=B2r e1;repeat' (first|simp only[go_sem,seval,e1,B6G,s1,B6H]|with_reducible refine B6u f.l.t U.lin.len _ ?_)
 obtain⟨Cs,j⟩: ∃Cs,Cs=Bs.set d (.box (ac6 f .nilsl)):=⟨_,rfl⟩
 have c1:Cs d=some (.box (ac6 f .nilsl)):=by rw[j,A2]
 have c2:Cs u=some (.box Z):=by rw[j,A3 _ z.symm];exact e2
 have J:H.Le Cs:=fun k o hk=>by
  have:k≠d:=fun e=>by rw[e,W]at hk;cases hk
  rw[j,A3 _ this];exact I _ _ hk
 rw[←j];refine C9 [1,2,15,16] (fun(p:Nat×Option Nat×Heap)=>[(17,.int .i64 p.1)]) (fun(p:Nat×Option Nat×Heap)=>p.2.2) (fun(p:Nat×Option Nat×Heap)=>p.1≤f.ks.length∧AH 7 Cs d (ac6 f) (Rw C0 (f.ks.take p.1)) p.1 p.2.1 p.2.2) (fun(p:Nat×Option Nat×Heap)=>f.ks.length-p.1) ((0,none,Cs)) (⟨D0A _,A16 c1⟩) (by(try simp only[go_sem,seval])<;>(try simp(disch:=omega) [A4])) (by first|exact D1G _|exact A0 (by assumption)|exact B2 (by assumption)|simp only[Heap.Le,Heap.set,Heap.del]at* <;>grind) ?_;rintro Ec rfl ⟨i,ob,Hp⟩ ⟨hi,A⟩;simp only at hi A;by_cases q:i<f.ks.length
 ·have C:decide ((i:Int)<f.ks.length)=true:=C9r (by omega);have X:(i:Int)<f.ks.length:=by omega
  have hm:=C93 q;repeat' (first|with_reducible apply C9p|simp only[go_sem,seval,C,X,A9 _ _ q,C1 _ _ q]|(intro g;try simp only[A6]at g)|omega)
  rename_i y;have h7:=g;clear g;obtain⟨d1,d7,dO,dN⟩:=A.at7 h7 (.box (C0 f.ks[i]));refine F5 (fun i'=>.agg (C0 f.ks[i])) [d,y] ?_;have m1:d∈[d,y]:=by simp
  have m7:y∈[d,y]:=by simp
  repeat' (first|simp only[go_sem,seval,d1,d7,m1,m7]|(intro g;try simp only[A6]at g)|with_reducible refine R0 (fun H' Q hro hq=>ih f.ks[i] (by have:=A0N hm;omega) (U.kid hm) H' hq) ?_)
  rename_i x;have hx:=g;clear g;obtain⟨L,Y⟩:=hx;have r:(Hp.set y (.box (C0 f.ks[i]))) x=none:=by rw[A3 _ L];exact Y
  obtain⟨G,M⟩:=A5A dO r (.vec 7 [C0 f.ks[i]]);have a0:x∉[d,y]:=by
   simp only[D0H,D0I,or_false,not_or];exact⟨fun e=>(by rw[e,d1]at r;cases r),L⟩
  have a4: ∀c,ob=some c→c∉[d,y]:=fun c e=>by
   simp only[D0H,D0I,or_false,not_or];exact⟨(A.fresh c e).2,dN c e⟩
  refine B0D 28 96 (n:=i) (m:=1) (bx:=x) (ob:=ob) (es:=Rw C0 (f.ks.take i)) (xs:=[C0 f.ks[i]]) (by simp only[go_sem,seval]) (by decide) (by simp only[go_sem,seval]) (by simp only[go_sem,seval]) (by simp only[go_sem,seval]) (by simp only[go_sem,seval]) (A2 _ _) rfl (by simp) G (Z0 _ _ (by omega)).symm a0 M a4 (by simp only[C9u,C9w];omega) (by simp only[C9u,C9w];omega) fun b' O=>?_;rw[E9 r]at O⊢;obtain⟨b0,a5,A'⟩:=A.step h7 _ O (C0 f.ks[i]);revert A';generalize a6:((K7 (Hp.set y (.box (C0 f.ks[i]))) ob).set b' (.vec 7 (Rw C0 (f.ks.take i)++[C0 f.ks[i]]))).set d (.box (ac6 f (.vec b' 7 0 (i+1))))=Hf;intro A';repeat' (first|simp only[go_sem,seval,a5,m1]|simp(disch:=omega) only[A4,A9,D0])
  exact C2 (i+1,some b',Hf) ⟨by simp only[];omega,by simp only[];rw[Q3 f.ks i q];exact A'⟩ (by simp only[];omega) (by(try simp only[go_sem,seval])<;>(try simp(disch:=omega) [A4])) (by rw[←a6];exact D1G _)
 ·have C:decide ((i:Int)<f.ks.length)=false:=C9s (by omega);have a9:i=f.ks.length:=by omega
  have T:=A.keep u _ z.symm c2;rw[C94 (by omega)]at A;have A1:=A.box;rw[hZ]at T;have o1:=A59 7 i ob;repeat' (first|with_reducible apply C9p|simp only[go_sem,seval,C,A1,T,o1])
  exact C2p a9 (A.out2 c2 _) (D1H (A.le2 J W V.2 _) (by rw[←C3h];exact h))
theorem B3D{Q}(f:Fm)(d:FmFit f)(H:Heap)(h:Q (.agg (C0 f)) H):D7 49 [.agg (C0 f)] H Q:=B9T _ f (C99 _) d H h
end Go.Proofs.YtibphjonmikciaaGreatDoor
namespace Go.Fo
open Go Go.Av Go.Lexs Go.Lin
abbrev A4y:ByteArray:=⟨#[40,41,44,33,38,124,63]⟩
theorem B1w(c:UInt8):A1o (c.toNat:Int)= !(B A4y).contains c:=by
 have key: ∀n:Fin 256,A1o ((UInt8.ofNat n.val).toNat:Int)= !(B A4y).contains (UInt8.ofNat n.val):=by decide+kernel
 have:=key ⟨c.toNat,c.toNat_lt⟩;simpa using this
theorem A7a: ∀l:List UInt8,Lib.containsAny l (B A4y)= !l.all (ofB A1o)
 | []=>rfl
 |b::l=>by
  have d:=A7a l;unfold Lib.containsAny at d⊢;rw[Lib.indexAny,D0s];have e:ofB A1o b= !(B A4y).contains b:=B1w b;rw[e];have g:=Lib.indexAny_ge (B A4y) l;by_cases h:(B A4y).contains b=true
  ·rw[if_pos h,h];rfl
  ·rw[if_neg h];have i:(B A4y).contains b=false:=by simpa using h
   rw[i,D1E,Bool.true_and,←d];apply D0S.2;split
   ·rename_i q;have:=beq_iff_eq.1 q;omega
   ·rename_i q;have:Lib.indexAny l (B A4y)≠ -1:=fun e=>q (by rw[e];rfl);omega
def plainK(f:Fm)(tx ln:Bool)(kk:Int):Bool:=(tx||decide (f.s.size=0))&&(ln||A9o f.l)&&(decide (kk<0)||decide ((f.ks.length:Int)=kk))
end Go.Fo
namespace Go.Proofs.YtibphjonmikciaaGreatDoor
open Go Go.Av Go.Lexs Go.Lin Go.Fo
attribute [local irreducible] ACalls W4
open Go.RowKit in
theorem C3G{Q}(s:ByteArray)(hs:H9 (B s)=true)(H:Heap)(h:Q (.bool (!(B s).all (ofB A1o))) H):D7 137 [.str s,.str A4y] H Q:=
 I4 (by kernel_rfl) (fun w vs hl hr i=>by
  obtain⟨a,b,rfl,d,hb⟩:=x9 hl hr;rw[d.str_inv,hb.str_inv];refine(Tryz.strings_ContainsAny_laid s A4y w (by have:=A2x hs;omega) (by decide) (fun j b g=>by have:=A5t hs b (D0M g);omega) (fun j b g=>by
   have hm:=D0M g;have key: ∀c∈(A4y).data.toList,c.toNat<128:=by decide
   exact key b hm)).mono fun e w' ⟨he,hw⟩=>?_
  refine⟨_,he,hw,?_⟩;rw[show Lib.containsAny s.data.toList A4y.data.toList= !(B s).all (ofB A1o)from A7a (B s)];exact .bool _) h
theorem B0a{Q}(s:ByteArray)(H:Heap)(h:Q (.bool (plainB s)) H):D7 99 [.str s] H Q:=by
 refine A8 [] A5 Tryz.func99 rfl ?_;simp only[go_sem,seval,Tryz.results99];unfold plainB at h;cases hn:H9 (B s)with
 |false=>
  rw[hn]at h;repeat' (first|simp only[go_sem,seval,hn]|with_reducible refine N5 _ _ ?_)
  exact D1K h
 |true=>
  rw[hn]at h;repeat' (first|simp only[go_sem,seval,hn]|with_reducible refine N5 _ _ ?_|with_reducible refine C3G s hn _ ?_)
  exact D1K (by simpa using h)
theorem C6N{Q}(t:LTm)(H:Heap)(h:Q (.bool (!plainB t.v)) H):D7 98 [.agg (Q7 t)] H Q:=by
 refine A8 [] A5 Tryz.func98 rfl ?_;simp only[go_sem,seval,Tryz.results98];repeat' (first|simp only[go_sem,seval]|intro d|with_reducible refine B0a _ _ ?_)
 exact D1H (by simp only[E6,D2,D3]at* <;>grind) h
set_option maxHeartbeats 2000000 in
theorem B0b{Q}(f:Fm)(g:FmFit f)(d e:Bool)(i:Int)(b:Nat)(H:Heap)(hb:H b=some (.box (C0 f)))(h:Q (.bool (plainK f d e i)) H):D7 95 [.bool d,.bool e,.int .i64 i,.box b 0] H Q:=by
 refine A8 [] A5 Tryz.func95 rfl ?_;simp only[go_sem,seval,Tryz.results95];have m:=g.kl;have o:=g.lin.len;have d1:decide (f.s.size=0)=decide (B f.s= []):=by
  rw[←Y7];exact D0S.2 List.length_eq_zero_iff
 have j:decide ((f.l.t.length:Int)=0)=decide (f.l.t= []):=D0S.2 (by rw[←List.length_eq_zero_iff];omega);unfold plainK A9o at h;rw[d1,←j]at h;clear d1 j;cases d<;>cases e
 all_goals
  repeat' (first|with_reducible apply C9p|simp only[go_sem,seval,hb]|intro p)
  all_goals (refine D1K ?_;simp_all)
end Go.Proofs.YtibphjonmikciaaGreatDoor
namespace Go.Fo
open Go Go.Av Go.Lexs Go.Lin
def ovr(S H:Heap):Heap:=fun i=>match S i with|some o=>some o|none=>H i
theorem A0b{S H:Heap}{b:Nat}{o:Av.Obj}(h:S b=some o):ovr S H b=some o:=by unfold ovr;rw[h]
theorem A2S{S H:Heap}{b:Nat}(h:S b=none):ovr S H b=H b:=by unfold ovr;rw[h]
theorem A0x{S H:Heap}{b:Nat}(h:ovr S H b=none):S b=none∧H b=none:=by
 unfold ovr at h;cases g:S b with
 |none=>rw[g]at h;exact⟨rfl,h⟩
 |some o=>rw[g]at h;cases h
theorem A8c{S H:Heap}{b:Nat}{o:Av.Obj}(h:S b=none):(ovr S H).set b o=ovr S (H.set b o):=by
 funext i
 unfold ovr Heap.set;by_cases e:i=b
 ·subst e;simp[h]
 ·simp[e]
theorem B1x{S H H':Heap}(h:H.Le H'):(ovr S H).Le (ovr S H'):=fun k o hk=>by
 unfold ovr at hk⊢;cases g:S k with
 |none=>rw[g]at hk;exact h _ _ hk
 |some x=>rw[g]at hk;exact hk
structure Vis(P:Program)(σ :Type)(g:Nat)(cap:List D)(St: σ →Heap)(step: σ →Fm→Int→ σ)(I: σ →Prop)(Hb:Heap→Prop):Prop where
 dom: ∀a a' i,St a i=none→St a' i=none
 inv: ∀a f d,I a→I (step a f d)
 base: ∀H b (o:Av.Obj),Hb H→H b=none→Hb (H.set b o)
 call: ∀a f d (H:Heap) (Q:D→Heap→Prop),I a→Hb H→FmFit f→Q (.tuple []) (ovr (St (step a f d)) H)→ACalls P g (.agg (C0 f):: .int .i64 d::cap) (ovr (St a) H) Q
end Go.Fo
namespace Go.Proofs.YtibphjonmikciaaGreatDoor
open Go Go.Av Go.Lexs Go.Lin Go.Fo
attribute [local irreducible] ACalls W4
theorem C3H{σ :Type}{g:Nat}{cap:List D}{St: σ →Heap}{step: σ →Fm→Int→ σ}{I: σ →Prop}{Hb:Heap→Prop}(V:Vis Tryz.prog σ g cap St step I Hb)(n:Nat): ∀{Q} (f:Fm) (hn:SizeOf.sizeOf f≤n) (x:FmFit f) (d:Int) (a: σ) (y:I a) (H:Heap) (G:Hb H) (h:Q (.tuple []) (ovr (St (foldF step f d a)) H)),
  D7 53 [.agg (C0 f),.int .i64 d,.fn (.func g) [] cap] (ovr (St a) H) Q:=by
 induction n with
 |zero=>intro Q f hn;cases f;simp at hn
 |succ n O=>
 intro Q f hn x d a y H G h;refine A8 [] A5 Tryz.func53 rfl ?_;simp only[go_sem,seval,Tryz.results53];have T:=x.kl;rw[A1w]at h;intro o z;obtain⟨J,L⟩:=A0x z;rw[A8c J];have j:=V.base H o (.box (C0 f)) G L;have q:H.Le (H.set o (.box (C0 f))):=A0 L;have e3: ∀a',ovr (St a') (H.set o (.box (C0 f))) o=some (.box (C0 f)):=fun a'=>by rw[A2S (V.dom a a' o J),A2]
 generalize H.set o (.box (C0 f))=Bs at j q e3⊢;repeat' (first|simp only[go_sem,seval,e3]|with_reducible refine V.call a f d Bs _ y j x ?_)
 refine C9 [1,2,13,14] (fun(p:Nat× σ)=>[(15,.int .i64 p.1)]) (fun(p:Nat× σ)=>ovr (St p.2) Bs) (fun(p:Nat× σ)=>p.1≤f.ks.length∧I p.2∧foldF.foldK step (f.ks.drop p.1) (IntKind.i64.wrap (d+1)) p.2=foldF.foldK step f.ks (IntKind.i64.wrap (d+1)) (step a f d)) (fun(p:Nat× σ)=>f.ks.length-p.1) ((0,step a f d)) (⟨D0A _,V.inv _ _ _ y,rfl⟩) (by(try simp only[go_sem,seval])<;>(try simp(disch:=omega) [A4])) (by first|exact D1G _|exact A0 (by assumption)|exact B2 (by assumption)|simp only[Heap.Le,Heap.set,Heap.del]at* <;>grind) ?_;rintro Ec rfl ⟨i,c⟩ ⟨U,hc,r⟩;simp only at U hc r;by_cases e:i<f.ks.length
 ·have m:decide ((i:Int)<f.ks.length)=true:=C9r (by omega);have A:(i:Int)<f.ks.length:=by omega
  have hm:=C93 e;rw[D0K e,foldF.foldK]at r;repeat' (first|with_reducible apply C9p|simp only[go_sem,seval,m,A,A9 _ _ e,C1 _ _ e]|intro u|omega)
  rename_i W;have X:=u;clear u;obtain⟨Y,M⟩:=A0x X;rw[A8c Y];have C:=V.base Bs W (.box (C0 f.ks[i])) j M;refine O f.ks[i] (by have:=A0N hm;omega) (x.kid hm) _ c hc _ C ?_;repeat' (first|simp only[go_sem,seval]|simp(disch:=omega) only[A4,A9,D0])
  exact C2 (i+1,foldF step f.ks[i] (IntKind.i64.wrap (d+1)) c) ⟨by simp only[];omega,B3y step I V.inv _ _ _ hc,r⟩ (by simp only[];omega) (by(try simp only[go_sem,seval])<;>(try simp(disch:=omega) [A4])) (B1x (A0 M))
 ·have m:decide ((i:Int)<f.ks.length)=false:=C9s (by omega);rw[List.drop_eq_nil_of_le (by omega),foldF.foldK]at r;rw[←r]at h;repeat' simp only[go_sem,seval,m]
  exact D1H (B1x q) h
theorem B1y{σ :Type}{g:Nat}{cap:List D}{St: σ →Heap}{step: σ →Fm→Int→ σ}{I: σ →Prop}{Hb:Heap→Prop}(V:Vis Tryz.prog σ g cap St step I Hb){Q}(f:Fm)(e:FmFit f)(d:Int)(a: σ)(i:I a)(H:Heap)(j:Hb H)(h:Q (.tuple []) (ovr (St (foldF step f d a)) H)):
  D7 53 [.agg (C0 f),.int .i64 d,.fn (.func g) [] cap] (ovr (St a) H) Q:=C3H V _ f (C99 _) e d a i H j h
end Go.Proofs.YtibphjonmikciaaGreatDoor
namespace Go.Fo
open Go Go.Av Go.Lexs Go.Lin
def tcF:List LTm→Int→Int
 | [],left=>left
 |t::l,left=>tcF l (IntKind.i64.wrap (left-t.v.size / 100))
def T7:Fm→Int→Int
 | .mk _ _ l s ks,left=>cntK ks (tcF l.t (IntKind.i64.wrap (left-IntKind.i64.wrap (IntKind.i64.wrap (1+s.size / 100)+l.t.length))))
where cntK:List Fm→Int→Int
 | [],left=>left
 |f::fs,left=>if left<0 then left else cntK fs (T7 f left)
theorem B3E(f:Fm)(left:Int):T7 f left=T7.cntK f.ks (tcF f.l.t (IntKind.i64.wrap (left-IntKind.i64.wrap (IntKind.i64.wrap (1+f.s.size / 100)+f.l.t.length)))):=by cases f;rw[T7];rfl
def B4R:List Fm→Int→Int
 | [],n=>n
 |f::l,n=>B4R l (T7 f n)
theorem C3I(l:List LTm): ∀(left:Int),(∀t∈l,t.v.size≤140737488351232)→ -100000000000000000+10000000000000*(l.length:Int)≤left→left≤1000000→tcF l left≤left∧left-2000000000000*(l.length:Int)≤tcF l left:=by
 induction l with
 |nil=>intro left _ _ _;rw[tcF];simp only[C9w];omega
 |cons t l d=>
  intro left h h0 h1;have e:=h t (C90 ..);simp only[C9u]at h0⊢;have w:IntKind.i64.wrap (left-(t.v.size:Int) / 100)=left-(t.v.size:Int) / 100:=A4 (by omega) (by omega);rw[tcF,w];have:=d (left-(t.v.size:Int) / 100) (fun x hx=>h x (C97 _ hx)) (by omega) (by omega);omega
theorem B3F{f:Fm}(h:D5 f=true):f.l.t.length≤12:=by
 cases B6T h with
 |lin l hv hp=>exact(L9 hv).len
 |_=>simp[Fm.l,nilL]
theorem B9U: ∀(f:Fm) (left:Int),FmFit f→G8 D5 f=true→0≤left→left≤1000000→T7 f left≤left∧(0≤T7 f left→(K9 f:Int)≤left-T7 f left):=by
 intro f
 induction f using P2 with
 |h o n l s ks i=>
  intro left fa hf h0 h1;have e:=B3F (f:=.mk o n l s ks) (by rw[A2P,C92]at hf;exact hf.1);have hk: ∀k∈ks,G8 D5 k=true:=fun k hk=>N8 (f:=.mk o n l s ks) hf hk;have j: ∀k∈ks,FmFit k:=fun k hk=>fa.kid hk;have hs:=fa.txt;have e:l.t.length≤12:=e;have hs:s.size≤140737488351232:=hs;rw[B3E,L2];show T7.cntK ks (tcF l.t (IntKind.i64.wrap (left-IntKind.i64.wrap (IntKind.i64.wrap (1+s.size / 100)+l.t.length))))≤left∧(0≤T7.cntK ks (tcF l.t (IntKind.i64.wrap (left-IntKind.i64.wrap (IntKind.i64.wrap (1+s.size / 100)+l.t.length))))→((1+l.t.length+K9.wtL ks:Nat):Int)≤left-T7.cntK ks (tcF l.t (IntKind.i64.wrap (left-IntKind.i64.wrap (IntKind.i64.wrap (1+s.size / 100)+l.t.length)))));have p:IntKind.i64.wrap (1+(s.size:Int) / 100)=1+(s.size:Int) / 100:=A4 (by omega) (by omega);have q:IntKind.i64.wrap (1+(s.size:Int) / 100+l.t.length)=1+(s.size:Int) / 100+l.t.length:=A4 (by omega) (by omega);have r:IntKind.i64.wrap (left-(1+(s.size:Int) / 100+l.t.length))=left-(1+(s.size:Int) / 100+l.t.length):=A4 (by omega) (by omega);rw[p,q,r];have u:=C3I l.t (left-(1+(s.size:Int) / 100+l.t.length)) (fun t e=>fa.lin.str t e) (by omega) (by omega);generalize tcF l.t (left-(1+(s.size:Int) / 100+l.t.length))=x at u;have key: ∀(m:List Fm),(∀k∈m,k∈ks)→∀x:Int,x≤1000000→T7.cntK m x≤x∧(0≤T7.cntK m x→(K9.wtL m:Int)≤x-T7.cntK m x):=by
   intro m
   induction m with
   |nil=>intro _ x _;exact⟨Int.le_refl _,fun _=>by simp[T7.cntK,K9.wtL]⟩
   |cons f fs g=>
    intro hm x hx;have d:=hm f (C90 ..);rw[T7.cntK,K9.wtL];split
    ·exact⟨Int.le_refl _,fun h=>by omega⟩
    ·have y:=i f d x (j f d) (hk f d) (by omega) hx;have z:=g (fun k hk=>hm k (C97 _ hk)) (T7 f x) (by omega);refine⟨by omega,fun h=>?_⟩;have:=z.2 h;have:=y.2 (by omega);push_cast;omega
  have A:=key ks (fun _ h=>h) x (by omega);refine⟨by omega,fun h=>?_⟩;have:=A.2 h;push_cast;omega
def VOk(f:Fm):Prop:=K9 f≤1000000∨G8 D5 f=false
theorem B9V{f:Fm}(d:FmFit f)(h:0≤T7 f 600):VOk f∧(G8 D5 f=true→K9 f≤600):=by
 by_cases g:G8 D5 f=true
 ·have:=(B9U f 600 d g (by decide) (by decide)).2 h;exact⟨.inl (by omega),fun _=>by omega⟩
 ·exact⟨.inr (by simpa using g),fun e=>absurd e g⟩
theorem B1z(l:List LTm):(!l.any fun t=> !plainB t.v)=l.all fun t=>plainB t.v:=by
 induction l with
 |nil=>rfl
 |cons t l d=>rw[D0u,D0s,←d];cases plainB t.v<;>simp
theorem B9W(l:List Fm):l.isEmpty=decide ((l.length:Int)=0):=by
 cases l with
 |nil=>rfl
 |cons x l=>simp only[List.isEmpty_cons,C9u];symm;apply C9s;omega
theorem B9X(l:List Fm):decide (l.length=1)=decide ((l.length:Int)=1):=D0S.2 (by omega)
theorem B6v(f:Fm):D5 f=if f.op=1 then((decide (f.n=0)||decide (f.n=1))&&plainK f false false 0)
  else if f.op=2 then(decide (f.n=0)&&plainK f false true 0&&validL f.l&& !f.l.t.any fun t=> !plainB t.v)
  else if f.op=3 then(decide (f.n=0)&&plainK f true false 0&&plainB f.s)
  else if f.op=4 then(decide (f.n=0)&&plainK f false false 1)
  else if f.op=5∨f.op=6 then(decide (f.n=0)&&plainK f false false (-1))else false:=by
 unfold D5 plainK;rw[B9W,B9X,B1z];split
 ·simp[Bool.and_assoc]
 ·split
  ·simp only[Bool.false_or,Bool.true_or,Bool.and_true,Int.lt_irrefl,decide_false,Bool.true_and,Bool.and_assoc]
  ·split
   ·simp only[Bool.false_or,Bool.true_or,Bool.and_true,Int.lt_irrefl,decide_false,Bool.true_and,Bool.and_assoc]
   ·split
    ·simp[Bool.and_assoc]
    ·split
     ·simp[Bool.and_assoc]
     ·rfl
end Go.Fo
namespace Go.Proofs.YtibphjonmikciaaGreatDoor
open Go Go.Av Go.Lexs Go.Lin Go.Fo
attribute [local irreducible] ACalls W4
set_option maxHeartbeats 4000000 in
theorem C8a{Q}(f:Fm)(i:FmFit f)(H:Heap)(h:Q (.bool (D5 f)) H):D7 55 [.agg (C0 f)] H Q:=by
 refine A8 [] A5 Tryz.func55 rfl ?_;simp only[go_sem,seval,Tryz.results55];have C:=i.lin.len;rw[B6v]at h;intro g h1;have e1:(H.set g (.box (C0 f))) g=some (.box (C0 f)):=A2 _ _;have d:H.Le (H.set g (.box (C0 f))):=A0 h1;generalize H.set g (.box (C0 f))=Bs at e1 d⊢;have q:=fun(Q:D→Heap→Prop)=>B0b (Q:=Q) f i false false 0 g Bs e1;have r:=fun(Q:D→Heap→Prop)=>B0b (Q:=Q) f i false true 0 g Bs e1;have u:=fun(Q:D→Heap→Prop)=>B0b (Q:=Q) f i true false 0 g Bs e1;have x:=fun(Q:D→Heap→Prop)=>B0b (Q:=Q) f i false false 1 g Bs e1;have m:=fun(Q:D→Heap→Prop)=>B0b (Q:=Q) f i false false (-1) g Bs e1;have y:=fun(Q:D→Heap→Prop)=>A8O (Q:=Q) f.l i.lin Bs;have z:=fun(Q:D→Heap→Prop)=>C3E (Q:=Q) (fun t=> !plainB t.v) f.l.t (by omega) 98 [] [] Bs (fun a T Q hq=>C6N a Bs hq);have A:=fun(Q:D→Heap→Prop)=>B0a (Q:=Q) f.s Bs;generalize plainK f false false 0=U at h q;generalize plainK f false true 0=V at h r;generalize plainK f true false 0=W at h u;generalize plainK f false false 1=X at h x;generalize plainK f false false (-1)=Y at h m;generalize validL f.l=v1 at h y;generalize (f.l.t.any fun t=> !plainB t.v)=v2 at h z;generalize plainB f.s=v3 at h A;by_cases o1:f.op=1
 ·rw[if_pos o1]at h;repeat' (first|with_reducible apply C9p|simp only[go_sem,seval,e1,o1]|intro e|with_reducible refine q _ ?_)
  all_goals (refine D1H d ?_;simp_all)
 rw[if_neg o1]at h;by_cases o2:f.op=2
 ·rw[if_pos o2]at h;repeat' (first|with_reducible apply C9p|simp only[go_sem,seval,e1,o2]|intro e|with_reducible refine r _ ?_|with_reducible refine y _ ?_|with_reducible refine z _ ?_)
  all_goals (refine D1H d ?_;simp_all)
 rw[if_neg o2]at h;by_cases o3:f.op=3
 ·rw[if_pos o3]at h;repeat' (first|with_reducible apply C9p|simp only[go_sem,seval,e1,o3]|intro e|with_reducible refine u _ ?_|with_reducible refine A _ ?_)
  all_goals (refine D1H d ?_;simp_all)
 rw[if_neg o3]at h;by_cases j:f.op=4
 ·rw[if_pos j]at h;repeat' (first|with_reducible apply C9p|simp only[go_sem,seval,e1,j]|intro e|with_reducible refine x _ ?_)
  all_goals (refine D1H d ?_;simp_all)
 rw[if_neg j]at h;by_cases o:f.op=5
 ·rw[if_pos (.inl o)]at h;repeat' (first|with_reducible apply C9p|simp only[go_sem,seval,e1,o]|intro e|with_reducible refine m _ ?_)
  all_goals (refine D1H d ?_;simp_all)
 by_cases p:f.op=6
 ·rw[if_pos (.inr p)]at h;repeat' (first|with_reducible apply C9p|simp only[go_sem,seval,e1,p]|intro e|with_reducible refine m _ ?_)
  all_goals (refine D1H d ?_;simp_all)
 rw[if_neg (by omega)]at h;have G:decide (f.op=1)=false:=C9s o1;have I:decide (f.op=2)=false:=C9s o2;have J:decide (f.op=3)=false:=C9s o3;have L:decide (f.op=4)=false:=C9s j;have M:decide (f.op=5)=false:=C9s o;have O:decide (f.op=6)=false:=C9s p;repeat' (first|with_reducible apply C9p|simp only[go_sem,seval,e1,G,I,J,L,M,O]|intro e|omega)
 all_goals exact D1H d h
end Go.Proofs.YtibphjonmikciaaGreatDoor
namespace Go.Fo
open Go Go.Av Go.Lexs Go.Lin
def A0y(n:Int):Av.Obj:=.box [.int .i64 n]
def Z6(bn bm:Nat)(a:Int×Int):Heap:=fun i=>if i=bm then some (A0y a.2)else if i=bn then some (A0y a.1)else none
theorem B9Y{bn bm:Nat}(a a':Int×Int)(H d:Heap)(h:(ovr (Z6 bn bm a) H).Le d):(ovr (Z6 bn bm a') H).Le ((d.set bn (A0y a'.1)).set bm (A0y a'.2)):=fun k o hk=>by
 unfold Heap.set;by_cases e:k=bm
 ·subst e;simp[ovr,Z6]at hk⊢;exact hk
 ·by_cases e2:k=bn
  ·subst e2;simp[ovr,Z6,e]at hk⊢;exact hk
  ·simp only[e,e2,if_false];refine h _ _ ?_;simpa [ovr,Z6,e,e2]using hk
def B6w(b:Bool):Av.Obj:=.box [.bool b]
def l7(bo:Nat)(a:Bool):Heap:=fun i=>if i=bo then some (B6w a)else none
theorem B3G{d:Nat}(a a':Bool)(H g:Heap)(h:(ovr (l7 d a) H).Le g):(ovr (l7 d a') H).Le (g.set d (B6w a')):=fun k o hk=>by
 unfold Heap.set;by_cases e:k=d
 ·subst e;simp[ovr,l7]at hk⊢;exact hk
 ·simp only[e,if_false];refine h _ _ ?_;simpa [ovr,l7,e]using hk
def P8(bi bb mi mb:Nat)(a:List ByteArray×List ByteArray):Heap:=fun i=>if i=mi then some (.map (C7 tt a.1))else if i=mb then some (.map (C7 tt a.2))else if i=bi then some (.box [.map mi])else if i=bb then some (.box [.map mb])else none
structure B9Z(bi bb mi mb:Nat):Prop where
 a:mi≠mb
 b:bi≠mi
 c:bi≠mb
 d:bb≠mi
 e:bb≠mb
 f:bi≠bb
theorem B0c{bi bb mi mb:Nat}(F:B9Z bi bb mi mb)(a:List ByteArray×List ByteArray)(H:Heap):ovr (P8 bi bb mi mb a) H mi=some (.map (C7 tt a.1))∧ovr (P8 bi bb mi mb a) H mb=some (.map (C7 tt a.2))∧ovr (P8 bi bb mi mb a) H bi=some (.box [.map mi])∧ovr (P8 bi bb mi mb a) H bb=some (.box [.map mb]):=by
 have f1:=F.a;have f2:=F.b;have f3:=F.c;have g:=F.d;have h:=F.e;have i:=F.f;refine⟨A0b (by simp[P8]),A0b (by simp[P8,f1.symm]),A0b (by simp[P8,f2,f3]),A0b (by simp[P8,g,h,i.symm])⟩
theorem B0d{bi bb mi mb:Nat}(a a':List ByteArray×List ByteArray)(H G:Heap)(h1:G mi=some (.map (C7 tt a'.1)))(e:G mb=some (.map (C7 tt a'.2)))(g:G bi=some (.box [.map mi]))(i:G bb=some (.box [.map mb]))
  (h: ∀k o,P8 bi bb mi mb a k=none→H k=some o→G k=some o):(ovr (P8 bi bb mi mb a') H).Le G:=fun k o hk=>by
 unfold ovr P8 at hk;by_cases e1:k=mi
 ·rw[if_pos e1]at hk;rw[e1,h1];exact hk
 rw[if_neg e1]at hk;by_cases e2:k=mb
 ·rw[if_pos e2]at hk;rw[e2,e];exact hk
 rw[if_neg e2]at hk;by_cases e3:k=bi
 ·rw[if_pos e3]at hk;rw[e3,g];exact hk
 rw[if_neg e3]at hk;by_cases d:k=bb
 ·rw[if_pos d]at hk;rw[d,i];exact hk
 rw[if_neg d]at hk;exact h k o (by unfold P8;rw[if_neg e1,if_neg e2,if_neg e3,if_neg d]) hk
theorem B6x{bi bb mi mb:Nat}(a a':List ByteArray×List ByteArray)(i:Nat)(h:P8 bi bb mi mb a i=none):P8 bi bb mi mb a' i=none:=by
 unfold P8 at h⊢;by_cases e1:i=mi
 ·simp[e1]at h
 by_cases e2:i=mb
 ·simp[e1,e2]at h;split at h<;>cases h
 by_cases e3:i=bi
 ·rw[if_neg e1,if_neg e2,if_pos e3]at h;cases h
 by_cases d:i=bb
 ·rw[if_neg e1,if_neg e2,if_neg e3,if_pos d]at h;cases h
 rw[if_neg e1,if_neg e2,if_neg e3,if_neg d]
theorem C8b(bn bm:Nat)(x y:Int)(H:Heap):(H.set bn (A0y x)).set bm (A0y y)=ovr (Z6 bn bm (x,y)) H:=by
 funext i
 unfold ovr Z6 Heap.set;by_cases e1:i=bm
 ·simp[e1]
 ·by_cases e2:i=bn
  ·subst e2;simp[e1]
  ·simp[e1,e2]
theorem C8c(d:Nat)(x:Bool)(H:Heap):H.set d (B6w x)=ovr (l7 d x) H:=by
 funext i
 unfold ovr l7 Heap.set;by_cases e1:i=d<;>simp[e1]
def A6G(n:Nat)(seen:List Nat):Nat:=((List.range n).filter fun i=> !seen.contains i).length
theorem A1z{n i:Nat}{seen:List Nat}(h:i<n)(hn:i∉seen):A6G n (seen++[i])<A6G n seen:=by
 unfold A6G;have key: ∀l:List Nat,(l.filter fun j=> !(seen++[i]).contains j).length+(l.filter fun j=>decide (j=i)).length≤(l.filter fun j=> !seen.contains j).length+(l.filter fun j=>decide (j=i∧i∈seen)).length:=by
  intro l
  induction l with
  |nil=>simp
  |cons x l d=>
   simp only[List.filter_cons];by_cases e:x=i
   ·subst e;simp[hn]at d⊢;omega
   ·by_cases g:x∈seen
    ·simp[e,g]at d⊢;omega
    ·simp[e,g]at d⊢;omega
 have m:=key (List.range n);have z:((List.range n).filter fun j=>decide (j=i∧i∈seen)).length=0:=by simp[hn]
 have o:1≤((List.range n).filter fun j=>decide (j=i)).length:=by
  apply List.length_pos_of_mem (a:=i);simp[h]
 omega
def V7(f:Fm):Bool:=decide ((foldF A0a f 1 (0,0)).1≤200)&&decide ((foldF A0a f 1 (0,0)).2≤60)
theorem B6y{f:Fm}(h:K9 f≤1000000):V7 f=(decide (P3 f≤60)&&decide (I8 f≤200)):=by
 unfold V7;rw[B58 f 1 (0,0) (by decide) (by omega) (by decide) (by simp only[];omega)];rw[Bool.and_comm];have h1:1≤P3 f:=by cases f;rw[P3];omega
 congr 1
 ·apply D0S.2;simp only[];omega
 ·apply D0S.2;simp only[];omega
theorem B0e{f:Fm}(h:VOk f):(V7 f&&G8 D5 f&& !meetL (ivF f) (bvF f)&&decide ((ivF f).length+(bvF f).length≤12))=E5 f:=by
 rw[A2Q];rcases h with h|h
 ·rw[B6y h];cases G8 D5 f<;>simp
 ·rw[h];simp
structure SmI(bn bm:Nat)(a:Int×Int)(d:Int)(Bs:Heap)(l:Array Bool)(F:FEnv)(H:Heap):Prop where
 size:l.size=7
 f1:F 1= .int .i64 d
 f2:F 2= .box bn 0
 f3:F 3= .box bm 0
 v0:l.getD 0 false=true→F 6= .int .i64 a.1
 v1:l.getD 1 false=true→F 7= .int .i64 (IntKind.i64.wrap (a.1+1))
 v2:l.getD 2 false=true→F 8= .int .i64 a.2
 v3:l.getD 3 false=true→F 9= .int .i64 d
 v4:l.getD 4 false=true→F 10= .int .i64 (if a.2<d then d else a.2)
 hn:H bn=some (if l.getD 5 false=true then A0y (IntKind.i64.wrap (a.1+1))else A0y a.1)
 hm:H bm=some (if l.getD 6 false=true then A0y (if a.2<d then d else a.2)else A0y a.2)
 ho: ∀k,k≠bn→k≠bm→H k=Bs k
 w5:l.getD 5 false=true→l.getD 0 false=true
 w6:l.getD 6 false=true→l.getD 2 false=true
end Go.Fo
namespace Go.Proofs.YtibphjonmikciaaGreatDoor
open Go Go.Av Go.Lexs Go.Lin Go.Fo
attribute [local irreducible] ACalls W4
noncomputable def smOps:Array Oper:=match Tryz.f94.body with|some (.seq _ (.region _ ops _))=>ops|_=> #[]
theorem B6z{bn bm:Nat}(T:bn≠bm)(a:Int×Int)(d:Int)(Bs:Heap)(K:Kg)(hK: ∀F H,H bn=some (A0y (IntKind.i64.wrap (a.1+1)))→H bm=some (A0y (if a.2<d then d else a.2))→(∀k,k≠bn→k≠bm→H k=Bs k)→K F H):
  ∀fuel l F H,SmI bn bm a d Bs l F H→(l.toList.filter (!·)).length≤fuel→B9A Tryz.prog smOps K fuel l F H:=by
 obtain⟨x0,o0,d0,p0,g0,w0⟩: ∃o,smOps[0]? =some o∧o.dst=some 6∧o.op= .load 3 (.tmp 2)∧o.guard=none∧J4 o= []:=⟨_,rfl,rfl,rfl,rfl,rfl⟩
 obtain⟨x1,o1,d1,p1,g1,w1⟩: ∃o,smOps[1]? =some o∧o.dst=some 7∧o.op= .binOp .add 3 (.tmp 6) (.const (.int .i64 1)) 3∧o.guard=none∧J4 o= [0]:=⟨_,rfl,rfl,rfl,rfl,rfl⟩
 obtain⟨x2,o2,d2,p2,g2,w2⟩: ∃o,smOps[2]? =some o∧o.dst=some 8∧o.op= .load 3 (.tmp 3)∧o.guard=none∧J4 o= []:=⟨_,rfl,rfl,rfl,rfl,rfl⟩
 obtain⟨x3,o3,d3,p3,g3,w3⟩: ∃o,smOps[3]? =some o∧o.dst=some 9∧o.op= .move (.tmp 1)∧o.guard=none∧J4 o= []:=⟨_,rfl,rfl,rfl,rfl,rfl⟩
 obtain⟨x4,o4,d4,p4,g4,W⟩: ∃o,smOps[4]? =some o∧o.dst=some 10∧o.op= .call ⟨.builtin .max,#[.tmp 8,.tmp 9],#[3,3]⟩∧o.guard=none∧J4 o= [2,3]:=⟨_,rfl,rfl,rfl,rfl,rfl⟩
 obtain⟨x5,o5,d5,p5,g5,w5⟩: ∃o,smOps[5]? =some o∧o.dst=none∧o.op= .store 3 (.tmp 2) (.tmp 7)∧o.guard=none∧J4 o= [1,0,1]:=⟨_,rfl,rfl,rfl,rfl,rfl⟩
 obtain⟨x6,o6,d6,p6,g6,w6⟩: ∃o,smOps[6]? =some o∧o.dst=none∧o.op= .store 3 (.tmp 3) (.tmp 10)∧o.guard=none∧J4 o= [4,5,0,1,2,3,4,5]:=⟨_,rfl,rfl,rfl,rfl,rfl⟩
 have a0:smOps.size=7:=rfl;generalize smOps=ops at*;have U: ∀i o,ops[i]? =some o→i<7:=fun i o h=>by have:=(D0E.1 h).1;omega
 have done: ∀l F H,SmI bn bm a d Bs l F H→(∀i,i<7→l.getD i false=true)→K F H:=fun l F H I J=>by
  refine hK F H ?_ ?_ I.ho
  ·rw[I.hn,if_pos (J 5 (by decide))]
  ·rw[I.hm,if_pos (J 6 (by decide))]
 have tf: ∀(l:Array Bool) (i:Nat),l.size=7→i<7→l.getD i false=false→l.getD i true=false:=fun l i hs z h=>by
  have:i<l.size:=by omega
  simp[this]at h⊢;exact h
 have ft: ∀(l:Array Bool) (i:Nat),l.size=7→i<7→l.getD i true=false→l.getD i false=false:=fun l i hs z h=>by
  have:i<l.size:=by omega
  simp[this]at h⊢;exact h
 have p: ∀(l:Array Bool),l.size=7→Region.ready .any ops l= []→∀i,i<7→l.getD i false=true:=fun l hs L=>by
  have k: ∀i o,i<7→ops[i]? =some o→(∀e∈J4 o,l.getD e false=true)→l.getD i false=true:=fun i o z ho A=>by
   cases hc:l.getD i false with
   |true=>rfl
   |false=>
    have:=A53 (tf l i hs z hc) ho A;rw[L]at this;cases this
  have k0:=k 0 x0 (by decide) o0 (fun e he=>by rw[w0]at he;simp only[D0H,D0I,or_false]at he;repeat (first|(rcases he with rfl|he;assumption)|(subst he;assumption)|exact he.elim));have M:=k 1 x1 (by decide) o1 (fun e he=>by rw[w1]at he;simp only[D0H,D0I,or_false]at he;repeat (first|(rcases he with rfl|he;assumption)|(subst he;assumption)|exact he.elim));have O:=k 2 x2 (by decide) o2 (fun e he=>by rw[w2]at he;simp only[D0H,D0I,or_false]at he;repeat (first|(rcases he with rfl|he;assumption)|(subst he;assumption)|exact he.elim));have k3:=k 3 x3 (by decide) o3 (fun e he=>by rw[w3]at he;simp only[D0H,D0I,or_false]at he;repeat (first|(rcases he with rfl|he;assumption)|(subst he;assumption)|exact he.elim));have k4:=k 4 x4 (by decide) o4 (fun e he=>by rw[W]at he;simp only[D0H,D0I,or_false]at he;repeat (first|(rcases he with rfl|he;assumption)|(subst he;assumption)|exact he.elim));have k5:=k 5 x5 (by decide) o5 (fun e he=>by rw[w5]at he;simp only[D0H,D0I,or_false]at he;repeat (first|(rcases he with rfl|he;assumption)|(subst he;assumption)|exact he.elim));have k6:=k 6 x6 (by decide) o6 (fun e he=>by rw[w6]at he;simp only[D0H,D0I,or_false]at he;repeat (first|(rcases he with rfl|he;assumption)|(subst he;assumption)|exact he.elim));intro i z
  match i,z with
  |0,_=>exact k0
  |1,_=>exact M
  |2,_=>exact O
  |3,_=>exact k3
  |4,_=>exact k4
  |5,_=>exact k5
  |6,_=>exact k6
 have X: ∀(l:Array Bool) (i:Nat) (n:Nat),l.size=7→i<7→l.getD i false=false→(l.toList.filter (!·)).length≤n+1→((l.setIfInBounds i true).toList.filter (!·)).length≤n:=fun l i n hs z h hc=>by
  have key: ∀(m:List Bool) (i:Nat),m[i]? =some false→((m.set i true).filter (!·)).length+1=(m.filter (!·)).length:=by
   intro m
   induction m with
   |nil=>intro i h;simp at h
   |cons b m C=>
    intro i h;cases i with
    |zero=>simp at h;subst h;simp
    |succ i=>
     have:=C i (by simpa using h);cases b<;>simp[List.set_cons_succ]<;>omega
  have hl:l.toList[i]? =some false:=by
   have:i<l.size:=by omega
   simp[this]at h⊢;exact h
  have:=key l.toList i hl;rw[Array.toList_setIfInBounds];omega
 have gs: ∀(l:Array Bool) (i j:Nat),l.size=7→i<7→(l.setIfInBounds i true).getD j false=(decide (i=j)||l.getD j false):=fun l i j hs z=>by
  by_cases e:i=j
  ·subst e;have:i<l.size:=by omega
   simp[this]
  ·rw[getD_set_ne false e];simp[e]
 intro fuel
 induction fuel with
 |zero=>
  intro l F H I hc;have hr:Region.ready .any ops l= []:=by
   cases hr:Region.ready .any ops l with
   |nil=>rfl
   |cons i r=>
    exfalso;obtain⟨h1,o,ho,_⟩:=A1O (by rw[hr];exact C90 .. :i∈Region.ready .any ops l);have z:=U i o ho;have:=I.size;have hl:l.toList[i]? =some false:=by
     have:i<l.size:=by omega
     simp[this]at h1⊢;exact h1
    have hm:false∈l.toList.filter (!·):=List.mem_filter.2 ⟨D0M hl,rfl⟩;have:=List.length_pos_of_mem hm;omega
  exact⟨hr,done l F H I (p l I.size hr)⟩
 |succ n C=>
  intro l F H I hc;refine⟨fun L=>done l F H I (p l I.size L),fun i z=>?_⟩;obtain⟨hu,o,ho,A⟩:=A1O z;have G:=U i o ho;have V:=ft l i I.size G hu;refine⟨o,ho,?_⟩;have u:=X l i n I.size G V hc;have hsz:(l.setIfInBounds i true).size=7:=by simpa using I.size
  have g:=fun j=>gs l i j I.size G;have nn:bn∈[bn,bm]:=by simp
  match i,G with
  |0,_=>
   rw[o0]at ho;cases ho;have e5:l.getD 5 false=false:=by
    cases q:l.getD 5 false with
    |false=>rfl
    |true=>have:=I.w5 q;rw[V]at this;cases this
   have x:=I.hn;rw[e5]at x;refine⟨g0,?_⟩;rw[p0,d0];simp only[go_sem,seval,show F.ev (.tmp 2)= .box bn 0 from I.f2,show H bn=some (.box [.int .i64 a.1])from x];refine C _ _ _ ?_ u;exact⟨hsz,I.f1,I.f2,I.f3,fun _=>rfl,fun q=>I.v1 (by simpa [g,-Array.getD_eq_getD_getElem?]using q),fun q=>I.v2 (by simpa [g,-Array.getD_eq_getD_getElem?]using q),fun q=>I.v3 (by simpa [g,-Array.getD_eq_getD_getElem?]using q),fun q=>I.v4 (by simpa [g,-Array.getD_eq_getD_getElem?]using q),by rw[I.hn];simp[g,-Array.getD_eq_getD_getElem?],by rw[I.hm];simp[g,-Array.getD_eq_getD_getElem?],I.ho,fun q=>by simp[g,-Array.getD_eq_getD_getElem?],fun q=>by simpa [g,-Array.getD_eq_getD_getElem?]using I.w6 (by simpa [g,-Array.getD_eq_getD_getElem?]using q)⟩
  |1,_=>
   rw[o1]at ho;cases ho;have L:l.getD 0 false=true:=A 0 (by rw[w1];simp);refine⟨g1,?_⟩;rw[p1,d1];simp only[go_sem,seval,show F.ev (.tmp 6)= .int .i64 a.1 from I.v0 L,show F.ev (.const (.int .i64 1))= .int .i64 1 from rfl];refine C _ _ _ ?_ u;exact⟨hsz,I.f1,I.f2,I.f3,fun q=>I.v0 (by simpa [g,-Array.getD_eq_getD_getElem?]using q),fun _=>rfl,fun q=>I.v2 (by simpa [g,-Array.getD_eq_getD_getElem?]using q),fun q=>I.v3 (by simpa [g,-Array.getD_eq_getD_getElem?]using q),fun q=>I.v4 (by simpa [g,-Array.getD_eq_getD_getElem?]using q),by rw[I.hn];simp[g,-Array.getD_eq_getD_getElem?],by rw[I.hm];simp[g,-Array.getD_eq_getD_getElem?],I.ho,fun q=>by simpa [g,-Array.getD_eq_getD_getElem?]using I.w5 (by simpa [g,-Array.getD_eq_getD_getElem?]using q),fun q=>by simpa [g,-Array.getD_eq_getD_getElem?]using I.w6 (by simpa [g,-Array.getD_eq_getD_getElem?]using q)⟩
  |2,_=>
   rw[o2]at ho;cases ho;have e6:l.getD 6 false=false:=by
    cases q:l.getD 6 false with
    |false=>rfl
    |true=>have:=I.w6 q;rw[V]at this;cases this
   have y:=I.hm;rw[e6]at y;refine⟨g2,?_⟩;rw[p2,d2];simp only[go_sem,seval,show F.ev (.tmp 3)= .box bm 0 from I.f3,show H bm=some (.box [.int .i64 a.2])from y];refine C _ _ _ ?_ u;exact⟨hsz,I.f1,I.f2,I.f3,fun q=>I.v0 (by simpa [g,-Array.getD_eq_getD_getElem?]using q),fun q=>I.v1 (by simpa [g,-Array.getD_eq_getD_getElem?]using q),fun _=>rfl,fun q=>I.v3 (by simpa [g,-Array.getD_eq_getD_getElem?]using q),fun q=>I.v4 (by simpa [g,-Array.getD_eq_getD_getElem?]using q),by rw[I.hn];simp[g,-Array.getD_eq_getD_getElem?],by rw[I.hm];simp[g,-Array.getD_eq_getD_getElem?],I.ho,fun q=>by simpa [g,-Array.getD_eq_getD_getElem?]using I.w5 (by simpa [g,-Array.getD_eq_getD_getElem?]using q),fun q=>by simp[g,-Array.getD_eq_getD_getElem?]⟩
  |3,_=>
   rw[o3]at ho;cases ho;refine⟨g3,?_⟩;rw[p3,d3];simp only[go_sem,seval,show F.ev (.tmp 1)= .int .i64 d from I.f1];refine C _ _ _ ?_ u;exact⟨hsz,I.f1,I.f2,I.f3,fun q=>I.v0 (by simpa [g,-Array.getD_eq_getD_getElem?]using q),fun q=>I.v1 (by simpa [g,-Array.getD_eq_getD_getElem?]using q),fun q=>I.v2 (by simpa [g,-Array.getD_eq_getD_getElem?]using q),fun _=>rfl,fun q=>I.v4 (by simpa [g,-Array.getD_eq_getD_getElem?]using q),by rw[I.hn];simp[g,-Array.getD_eq_getD_getElem?],by rw[I.hm];simp[g,-Array.getD_eq_getD_getElem?],I.ho,fun q=>by simpa [g,-Array.getD_eq_getD_getElem?]using I.w5 (by simpa [g,-Array.getD_eq_getD_getElem?]using q),fun q=>by simpa [g,-Array.getD_eq_getD_getElem?]using I.w6 (by simpa [g,-Array.getD_eq_getD_getElem?]using q)⟩
  |4,_=>
   rw[o4]at ho;cases ho;have Y:l.getD 2 false=true:=A 2 (by rw[W];simp);have h3:l.getD 3 false=true:=A 3 (by rw[W];simp);refine⟨g4,?_⟩;rw[p4,d4];simp only[go_sem,seval,show F.ev (.tmp 8)= .int .i64 a.2 from I.v2 Y,show F.ev (.tmp 9)= .int .i64 d from I.v3 h3];refine C _ _ _ ?_ u;exact⟨hsz,I.f1,I.f2,I.f3,fun q=>I.v0 (by simpa [g,-Array.getD_eq_getD_getElem?]using q),fun q=>I.v1 (by simpa [g,-Array.getD_eq_getD_getElem?]using q),fun q=>I.v2 (by simpa [g,-Array.getD_eq_getD_getElem?]using q),fun q=>I.v3 (by simpa [g,-Array.getD_eq_getD_getElem?]using q),fun _=>rfl,by rw[I.hn];simp[g,-Array.getD_eq_getD_getElem?],by rw[I.hm];simp[g,-Array.getD_eq_getD_getElem?],I.ho,fun q=>by simpa [g,-Array.getD_eq_getD_getElem?]using I.w5 (by simpa [g,-Array.getD_eq_getD_getElem?]using q),fun q=>by simpa [g,-Array.getD_eq_getD_getElem?]using I.w6 (by simpa [g,-Array.getD_eq_getD_getElem?]using q)⟩
  |5,_=>
   rw[o5]at ho;cases ho;have L:l.getD 0 false=true:=A 0 (by rw[w5];simp);have h1:l.getD 1 false=true:=A 1 (by rw[w5];simp);have x:=I.hn;rw[V]at x;refine⟨g5,?_⟩;rw[p5,d5];simp only[go_sem,seval,show F.ev (.tmp 2)= .box bn 0 from I.f2,show F.ev (.tmp 7)= .int .i64 (IntKind.i64.wrap (a.1+1))from I.v1 h1,show H bn=some (.box [.int .i64 a.1])from x];refine C _ _ _ ?_ u;exact⟨hsz,I.f1,I.f2,I.f3,fun q=>I.v0 (by simpa [g,-Array.getD_eq_getD_getElem?]using q),fun q=>I.v1 (by simpa [g,-Array.getD_eq_getD_getElem?]using q),fun q=>I.v2 (by simpa [g,-Array.getD_eq_getD_getElem?]using q),fun q=>I.v3 (by simpa [g,-Array.getD_eq_getD_getElem?]using q),fun q=>I.v4 (by simpa [g,-Array.getD_eq_getD_getElem?]using q),by rw[A2];simp[g,-Array.getD_eq_getD_getElem?,A0y],by rw[A3 _ T.symm,I.hm];simp[g,-Array.getD_eq_getD_getElem?],fun k M O=>by rw[A3 _ M];exact I.ho k M O,fun q=>by simp[g,-Array.getD_eq_getD_getElem?,L],fun q=>by simpa [g,-Array.getD_eq_getD_getElem?]using I.w6 (by simpa [g,-Array.getD_eq_getD_getElem?]using q)⟩
  |6,_=>
   rw[o6]at ho;cases ho;have Y:l.getD 2 false=true:=A 2 (by rw[w6];simp);have h4:l.getD 4 false=true:=A 4 (by rw[w6];simp);have y:=I.hm;rw[V]at y;refine⟨g6,?_⟩;rw[p6,d6];simp only[go_sem,seval,show F.ev (.tmp 3)= .box bm 0 from I.f3,show F.ev (.tmp 10)= .int .i64 (if a.2<d then d else a.2)from I.v4 h4,show H bm=some (.box [.int .i64 a.2])from y];refine C _ _ _ ?_ u;exact⟨hsz,I.f1,I.f2,I.f3,fun q=>I.v0 (by simpa [g,-Array.getD_eq_getD_getElem?]using q),fun q=>I.v1 (by simpa [g,-Array.getD_eq_getD_getElem?]using q),fun q=>I.v2 (by simpa [g,-Array.getD_eq_getD_getElem?]using q),fun q=>I.v3 (by simpa [g,-Array.getD_eq_getD_getElem?]using q),fun q=>I.v4 (by simpa [g,-Array.getD_eq_getD_getElem?]using q),by rw[A3 _ T,I.hn];simp[g,-Array.getD_eq_getD_getElem?],by rw[A2];simp[g,-Array.getD_eq_getD_getElem?,A0y],fun k M O=>by rw[A3 _ O];exact I.ho k M O,fun q=>by simpa [g,-Array.getD_eq_getD_getElem?]using I.w5 (by simpa [g,-Array.getD_eq_getD_getElem?]using q),fun q=>by simp[g,-Array.getD_eq_getD_getElem?,Y]⟩
theorem B60{bn bm:Nat}(g:bn≠bm)(a:Int×Int)(f:Fm)(d:Int)(H:Heap)(Q:D→Heap→Prop)(h:Q (.tuple []) (ovr (Z6 bn bm (A0a a f d)) H)):D7 94 [.agg (C0 f),.int .i64 d,.box bn 0,.box bm 0] (ovr (Z6 bn bm a) H) Q:=by
 refine B1e (ops:=smOps) A5 Tryz.func94 rfl (by kernel_rfl) (C9q (by kernel_rfl)) rfl (by kernel_rfl) (by kernel_rfl) ?_;simp only[go_sem,seval];intro j x;obtain⟨p,I⟩:=A0x x;have y:bn≠j∧bm≠j:=by
  unfold Z6 at p;constructor
  ·rintro rfl;simp[g]at p
  ·rintro rfl;simp at p
 have e1:((ovr (Z6 bn bm a) H).set j (.box (C0 f))) bn=some (A0y a.1):=by
  rw[A3 _ y.1,A0b (o:=A0y a.1) (by simp[Z6,g])]
 have e2:((ovr (Z6 bn bm a) H).set j (.box (C0 f))) bm=some (A0y a.2):=by
  rw[A3 _ y.2,A0b (o:=A0y a.2) (by simp[Z6])]
 have m:(ovr (Z6 bn bm a) H).Le ((ovr (Z6 bn bm a) H).set j (.box (C0 f))):=A0 x;generalize (ovr (Z6 bn bm a) H).set j (.box (C0 f))=Bs at e1 e2 m⊢;have e: ∀i,(Array.replicate smOps.size false).getD i false=false:=fun i=>by simp[Array.getElem?_replicate];split<;>simp
 refine B6z g a d Bs _ (fun F J A z C=>?_) _ _ _ _ ?_ ?_
 rotate_left
 ·exact⟨by rfl,rfl,rfl,rfl,fun q=>(by rw[e]at q;cases q),fun q=>(by rw[e]at q;cases q),fun q=>(by rw[e]at q;cases q),fun q=>(by rw[e]at q;cases q),fun q=>(by rw[e]at q;cases q),by rw[e1,e];rfl,by rw[e2,e];rfl,fun _ _ _=>rfl,fun q=>(by rw[e]at q;cases q),fun q=>(by rw[e]at q;cases q)⟩
 ·show ((Array.replicate 7 false).toList.filter (!·)).length≤7;decide
 have G:(if a.2<d then d else a.2)=(A0a a f d).2:=by unfold A0a;simp only[Int.max_def];split<;>split<;>omega
 rw[G]at z;refine D1H ((B9Y a (A0a a f d) H Bs m).trans fun k o hk=>?_) h;by_cases r:k=bm
 ·subst r;rw[A2]at hk;rw[z];exact hk
 ·rw[A3 _ r]at hk;by_cases u:k=bn
  ·subst u;rw[A2]at hk;rw[A];exact hk
  ·rw[A3 _ u]at hk;rw[C k u r];exact hk
theorem B61{bn bm:Nat}(g:bn≠bm):Vis Tryz.prog (Int×Int) 94 [.box bn 0,.box bm 0] (Z6 bn bm) A0a (fun _=>True) (fun _=>True) where
 dom a a' i h:=by
  unfold Z6 at h⊢;by_cases e:i=bm
  ·simp[e]at h
  ·by_cases e2:i=bn
   ·simp[e2,g]at h
   ·simp[e,e2]
 inv _ _ _ _:=trivial
 base _ _ _ _ _:=trivial
 call a f d H Q _ _ fa h:=B60 g a f d H Q h
theorem B9a{Q}(f:Fm)(I:FmFit f)(H:Heap)(h:Q (.bool (V7 f)) H):D7 52 [.agg (C0 f)] H Q:=by
 refine A8 [] A5 Tryz.func52 rfl ?_;simp only[go_sem,seval,Tryz.results52];intro y h1;repeat' (first|simp only[go_sem,seval]|simp(disch:=first|omega|grind) only[B9]|(intro d;try simp only[A6]at d))
 rename_i i J j;have z:=d;clear d;have m:i≠j:=fun e=>z.1 e.symm;refine Eq.mpr (congrArg (fun G=>ACalls _ _ _ G _) (C8b i j 0 0 (((H.set y (.box (C0 f))).set i (.box [.int .i64 0])).set j (.box [.int .i64 0])))) ?_;refine B1y (B61 m) f I 1 (0,0) trivial _ trivial ?_;generalize u:((H.set y (.box (C0 f))).set i (.box [.int .i64 0])).set j (.box [.int .i64 0])=q;have e3:ovr (Z6 i j (foldF A0a f 1 (0,0))) q i=some (.box [.int .i64 (foldF A0a f 1 (0,0)).1]):=A0b (o:=A0y _) (by simp[Z6,m]);have x:ovr (Z6 i j (foldF A0a f 1 (0,0))) q j=some (.box [.int .i64 (foldF A0a f 1 (0,0)).2]):=A0b (o:=A0y _) (by simp[Z6]);have p:H.Le (ovr (Z6 i j (foldF A0a f 1 (0,0))) q):=fun k o hk=>by
  have A:k≠i:=fun g=>by subst g;rw[J.2]at hk;cases hk
  have C:k≠j:=fun g=>by subst g;rw[z.2.2]at hk;cases hk
  rw[A2S (by simp[Z6,A,C])];rw[←u,A3 _ C,A3 _ A];exact A0 h1 _ _ hk
 generalize ovr (Z6 i j (foldF A0a f 1 (0,0))) q=Bs at e3 x p⊢;unfold V7 at h;generalize foldF A0a f 1 (0,0)=r at e3 x h;repeat' (first|with_reducible apply C9p|simp only[go_sem,seval,e3,x]|(intro d;try simp only[A6]at d))
 all_goals (refine D1H p ?_;simp_all)
theorem B62{e:Nat}(a:Bool)(f:Fm)(m:FmFit f)(d:Int)(H:Heap)(Q:D→Heap→Prop)(h:Q (.tuple []) (ovr (l7 e (A8R D5 a f d)) H)):D7 54 [.agg (C0 f),.int .i64 d,.box e 0] (ovr (l7 e a) H) Q:=by
 refine A8 [] A5 Tryz.func54 rfl ?_;simp only[go_sem,seval,Tryz.results54];intro i j;obtain⟨p,q⟩:=A0x j;have n3:e≠i:=by
  rintro rfl;simp[l7]at p
 have e1:((ovr (l7 e a) H).set i (.box (C0 f))) e=some (.box [.bool a]):=by
  rw[A3 _ n3,A0b (o:=B6w a) (by simp[l7])];rfl
 have e3:((ovr (l7 e a) H).set i (.box (C0 f))) i=some (.box (C0 f)):=A2 _ _;have g:(ovr (l7 e a) H).Le ((ovr (l7 e a) H).set i (.box (C0 f))):=A0 j;generalize (ovr (l7 e a) H).set i (.box (C0 f))=Bs at e1 e3 g⊢;cases a with
 |false=>
  repeat' simp only[go_sem,seval,e1,e3]
  exact D1H (B3G false (A8R D5 false f d) H Bs g) h
 |true=>
  repeat' (first|simp only[go_sem,seval,e1,e3]|with_reducible refine C8a f m _ ?_)
  exact D1H (B3G true (A8R D5 true f d) H Bs g) h
theorem B63(g:Nat):Vis Tryz.prog Bool 54 [.box g 0] (l7 g) (A8R D5) (fun _=>True) (fun _=>True) where
 dom a a' i h:=by
  unfold l7 at h⊢;by_cases e:i=g
  ·simp[e]at h
  ·simp[e]
 inv _ _ _ _:=trivial
 base _ _ _ _ _:=trivial
 call a f d H Q _ _ fa h:=B62 a f fa d H Q h
end Go.Proofs.YtibphjonmikciaaGreatDoor
namespace Go.Av
theorem A4m{Q:D→Heap→Prop}{H:Heap}{b:Nat}{kvs:List (D×D)}(hb:H b=some (.map kvs))(h:Fin Q (.fm kvs) (H.del b)):Fin Q (.map b) H:=by
 unfold Fin at h⊢;obtain⟨d,d1,h1,e⟩:=h;exact⟨d,d1,Shift.trans (fun w v hr hs=>⟨B2m hs hb (D9 H b) (G9 (by simp[Heap.del])) hr,hs.less (D9 H b),fun k hn=>(D9 H b).held hn⟩) h1,e⟩
theorem A3k{Q:D→Heap→Prop}{H:Heap}{b:Nat}{kvs:List (D×D)}{ds ds':List D}(hb:H b=some (.map kvs))(hl:ds.length=ds'.length)
  (m: ∀(i:Nat) d d',ds[i]? =some d→ds'[i]? =some d'→d'=d∨(d= .map b∧d'= .fm kvs)) (h:Fin Q (.tuple ds') (H.del b)):Fin Q (.tuple ds) H:=by
 unfold Fin at h⊢;obtain⟨o,d1,h1,p⟩:=h;refine⟨o,d1,Shift.trans (fun w v hr hs=>⟨?_,hs.less (D9 H b),fun k hn=>(D9 H b).held hn⟩) h1,p⟩;obtain⟨vs,rfl,q,e⟩:=hr.tuple_inv;refine .tuple _ _ (by omega) fun i d' g=>?_;obtain⟨d,j⟩:=F8 hl g;rcases m i d d' j g with rfl|⟨rfl,rfl⟩
 ·exact(e i d' j).less (D9 H b)
 ·exact B2m hs hb (D9 H b) (G9 (by simp[Heap.del])) (e i _ j)
theorem A8w{Q:D→Heap→Prop}{H:Heap}{b c:Nat}{kvs g:List (D×D)}{ds:List D}(hb:H b=some (.map kvs))(hc:H c=some (.map g))(j:c≠b)(h:Fin Q (.tuple (.fm kvs:: .fm g::ds)) ((H.del b).del c)):Fin Q (.tuple (.map b:: .map c::ds)) H:=by
 refine A3k (ds':=.fm kvs:: .map c::ds) hb rfl (fun i d d' h1 e=>?_) (A3k (b:=c) (kvs:=g) (ds':=.fm kvs:: .fm g::ds) (by simp[Heap.del,j,hc]) rfl (fun i d d' h1 e=>?_) h)
 ·match i with
  |0=>cases h1;cases e;exact .inr ⟨rfl,rfl⟩
  |i+1=>simp only[D0L]at h1 e;rw[h1]at e;cases e;exact .inl rfl
 ·match i with
  |0=>cases h1;cases e;exact .inl rfl
  |1=>cases h1;cases e;exact .inr ⟨rfl,rfl⟩
  |i+2=>simp only[D0L]at h1 e;rw[h1]at e;cases e;exact .inl rfl
end Go.Av
namespace Go.Proofs.YtibphjonmikciaaGreatDoor
open Go Go.Av Go.Lexs Go.Lin Go.Fo
attribute [local irreducible] ACalls W4
theorem B64{bi bb mi mb:Nat}(F:B9Z bi bb mi mb)(a:List ByteArray×List ByteArray)(W:a.1.Nodup)(a0:a.2.Nodup)(f:Fm)(fa:FmFit f)(d:Int)(H:Heap)(Q:D→Heap→Prop)(h:Q (.tuple []) (ovr (P8 bi bb mi mb (A4w a f d)) H)):
  D7 86 [.agg (C0 f),.int .i64 d,.box bb 0,.box bi 0] (ovr (P8 bi bb mi mb a) H) Q:=by
 refine A8 [] A5 Tryz.func86 rfl ?_;simp only[go_sem,seval,Tryz.results86];have a5:=fa.lin.len;intro p A;obtain⟨s4,g4⟩:=A0x A;obtain⟨G,U,q3,q4⟩:=B0c F a H;have V:mi≠p∧mb≠p∧bi≠p∧bb≠p:=by
  refine⟨fun e=>?_,fun e=>?_,fun e=>?_,fun e=>?_⟩
  ·rw[←e,G]at A;cases A
  ·rw[←e,U]at A;cases A
  ·rw[←e,q3]at A;cases A
  ·rw[←e,q4]at A;cases A
 have e1:((ovr (P8 bi bb mi mb a) H).set p (.box (C0 f))) mi=some (.map (C7 tt a.1)):=by rw[A3 _ V.1];exact G
 have e2:((ovr (P8 bi bb mi mb a) H).set p (.box (C0 f))) mb=some (.map (C7 tt a.2)):=by rw[A3 _ V.2.1];exact U
 have e3:((ovr (P8 bi bb mi mb a) H).set p (.box (C0 f))) bi=some (.box [.map mi]):=by rw[A3 _ V.2.2.1];exact q3
 have X:((ovr (P8 bi bb mi mb a) H).set p (.box (C0 f))) bb=some (.box [.map mb]):=by rw[A3 _ V.2.2.2];exact q4
 have e5:((ovr (P8 bi bb mi mb a) H).set p (.box (C0 f))) p=some (.box (C0 f)):=A2 _ _;have hH: ∀k o,P8 bi bb mi mb a k=none→H k=some o→((ovr (P8 bi bb mi mb a) H).set p (.box (C0 f))) k=some o:=fun k o g k2=>A0 A _ _ (by rw[A2S g];exact k2);generalize (ovr (P8 bi bb mi mb a) H).set p (.box (C0 f))=Bs at e1 e2 e3 X e5 hH⊢;have f1:=F.a;have f2:=F.b;have f3:=F.c;have f4:=F.d;have f5:=F.e;have f6:=F.f;have I: ∀k,P8 bi bb mi mb a k=none→k≠mi∧k≠mb∧k≠bi∧k≠bb:=fun k hk=>by
  refine⟨fun e=>?_,fun e=>?_,fun e=>?_,fun e=>?_⟩<;>(subst e;simp[P8,f1,f2,f3,f4,f5,f6,f1.symm,f6.symm]at hk)
 have n1:p≠mb:=fun e=>V.2.1 e.symm;have n2:p≠mi:=fun e=>V.1 e.symm;by_cases o3:f.op=3
 ·repeat' (first|with_reducible apply C9p|simp only[go_sem,seval,e1,e2,e3,X,e5,o3,X9 _ _ _ _ a0,A2v]|simp(disch:=first|omega|grind) only[B9])
  have c1:(Bs.set mb (.map (C7 tt (I1 a.2 f.s)))) mi=some (.map (C7 tt a.1)):=by rw[A3 _ f1];exact e1
  have J:(Bs.set mb (.map (C7 tt (I1 a.2 f.s)))) mb=some (.map (C7 tt (I1 a.2 f.s))):=A2 _ _;have Y:(Bs.set mb (.map (C7 tt (I1 a.2 f.s)))) bi=some (.box [.map mi]):=by rw[A3 _ f3];exact e3
  have c4:(Bs.set mb (.map (C7 tt (I1 a.2 f.s)))) bb=some (.box [.map mb]):=by rw[A3 _ f5];exact X
  have c5:(Bs.set mb (.map (C7 tt (I1 a.2 f.s)))) p=some (.box (C0 f)):=by rw[A3 _ n1];exact e5
  have cH: ∀k o,P8 bi bb mi mb a k=none→H k=some o→(Bs.set mb (.map (C7 tt (I1 a.2 f.s)))) k=some o:=fun k o g k2=>by
   rw[A3 _ (I k g).2.1];exact hH k o g k2
  generalize Bs.set mb (.map (C7 tt (I1 a.2 f.s)))=Cs at c1 J Y c4 c5 cH⊢;have eS:(A4w a f d).2=I1 a.2 f.s:=by unfold A4w;rw[if_pos o3]
  rw[←eS]at J;refine C9 [3,16,17] (fun(j:Nat)=>[(18,.int .i64 j)]) (fun(j:Nat)=>Cs.set mi (.map (C7 tt (((f.l.t.take j).map (·.v)).foldl I1 a.1)))) (fun(j:Nat)=>j≤f.l.t.length) (fun(j:Nat)=>f.l.t.length-j) (0) (D0A _) (by(try simp only[go_sem,seval])<;>(try simp(disch:=omega) [A4])) (by first|exact D1G _|exact A0 (by assumption)|exact B2 (by assumption)|simp only[Heap.Le,Heap.set,Heap.del]at* <;>grind) ?_;rintro Ec rfl j hj;have q:(Cs.set mi (.map (C7 tt (((f.l.t.take j).map (·.v)).foldl I1 a.1)))) bi=some (.box [.map mi]):=by rw[A3 _ f2];exact Y
  have g:(Cs.set mi (.map (C7 tt (((f.l.t.take j).map (·.v)).foldl I1 a.1)))) mi=some (.map (C7 tt (((f.l.t.take j).map (·.v)).foldl I1 a.1))):=A2 _ _;by_cases r:j<f.l.t.length
  ·have u:decide ((j:Int)<f.l.t.length)=true:=C9r (by omega);have L:(j:Int)<f.l.t.length:=by omega
   have x:(((f.l.t.take j).map (·.v)).foldl I1 a.1).Nodup:=T0 _ _ W;have z:((f.l.t.take (j+1)).map (·.v)).foldl I1 a.1=I1 (((f.l.t.take j).map (·.v)).foldl I1 a.1) f.l.t[j].v:=by
    rw[C98 r,D0p,D0h];rfl
   generalize hM:((f.l.t.take j).map (·.v)).foldl I1 a.1=M at x z g q⊢;generalize i:Cs.set mi (.map (C7 tt M))=Ds at g q⊢;repeat' (first|with_reducible apply C9p|simp only[go_sem,seval,u,L,A9 _ _ r,C1 _ _ r,g,q,X9 _ _ _ _ x,A2v]|simp(disch:=omega) only[A4,A9,D0]|simp(disch:=first|omega|grind) only[B9]|intro m|omega)
   rename_i O;have y:=m;clear m;have n7:mi≠O:=fun e=>by rw[←e,g]at y;cases y
   have T:bi≠O:=fun e=>by rw[←e,q]at y;cases y
   repeat' (first|with_reducible apply C9p|simp only[go_sem,seval,g,q,X9 _ _ _ _ x,A2v,A3 _ n7,A3 _ T]|simp(disch:=omega) only[A4,A9,D0]|simp(disch:=first|omega|grind) only[B9]|intro m|omega)
   refine C2 (j+1) (by omega) (by omega) (by(try simp only[go_sem,seval])<;>(try simp(disch:=omega) [A4])) ?_;rw[z,←i];rw[←i]at y;intro k o hk;by_cases C:k=mi
   ·subst C;rw[A2]at hk⊢;exact hk
   ·rw[A3 _ C]at hk⊢;have g2:k≠O:=fun e=>by subst e;rw[A3 _ C,hk]at y;cases y
    rw[A3 _ g2,A3 _ C];exact hk
  ·have u:decide ((j:Int)<f.l.t.length)=false:=C9s (by omega);rw[C94 (by omega)]at g q⊢;repeat' simp only[go_sem,seval,u]
   refine D1H (B0d a (A4w a f d) H _ g (by rw[A3 _ f1.symm];exact J) q (by rw[A3 _ f4];exact c4) (fun k o G U=>by rw[A3 _ (I k G).1];exact cH k o G U)) h
 ·have a4:decide (f.op=3)=false:=C9s o3;repeat' (first|with_reducible apply C9p|simp only[go_sem,seval,e1,e2,e3,X,e5,a4]|intro m|omega)
  have c1:=e1;have J:=e2;have Y:=e3;have c4:=X;have c5:=e5;have cH:=hH;generalize Bs=Cs at c1 J Y c4 c5 cH⊢;have eS:(A4w a f d).2=a.2:=by unfold A4w;rw[if_neg o3]
  rw[←eS]at J;refine C9 [3,16,17] (fun(j:Nat)=>[(18,.int .i64 j)]) (fun(j:Nat)=>Cs.set mi (.map (C7 tt (((f.l.t.take j).map (·.v)).foldl I1 a.1)))) (fun(j:Nat)=>j≤f.l.t.length) (fun(j:Nat)=>f.l.t.length-j) (0) (D0A _) (by(try simp only[go_sem,seval])<;>(try simp(disch:=omega) [A4])) (by first|exact D1G _|exact A0 (by assumption)|exact B2 (by assumption)|simp only[Heap.Le,Heap.set,Heap.del]at* <;>grind) ?_;rintro Ec rfl j hj;have q:(Cs.set mi (.map (C7 tt (((f.l.t.take j).map (·.v)).foldl I1 a.1)))) bi=some (.box [.map mi]):=by rw[A3 _ f2];exact Y
  have g:(Cs.set mi (.map (C7 tt (((f.l.t.take j).map (·.v)).foldl I1 a.1)))) mi=some (.map (C7 tt (((f.l.t.take j).map (·.v)).foldl I1 a.1))):=A2 _ _;by_cases r:j<f.l.t.length
  ·have u:decide ((j:Int)<f.l.t.length)=true:=C9r (by omega);have L:(j:Int)<f.l.t.length:=by omega
   have x:(((f.l.t.take j).map (·.v)).foldl I1 a.1).Nodup:=T0 _ _ W;have z:((f.l.t.take (j+1)).map (·.v)).foldl I1 a.1=I1 (((f.l.t.take j).map (·.v)).foldl I1 a.1) f.l.t[j].v:=by
    rw[C98 r,D0p,D0h];rfl
   generalize hM:((f.l.t.take j).map (·.v)).foldl I1 a.1=M at x z g q⊢;generalize i:Cs.set mi (.map (C7 tt M))=Ds at g q⊢;repeat' (first|with_reducible apply C9p|simp only[go_sem,seval,u,L,A9 _ _ r,C1 _ _ r,g,q,X9 _ _ _ _ x,A2v]|simp(disch:=omega) only[A4,A9,D0]|simp(disch:=first|omega|grind) only[B9]|intro m|omega)
   rename_i O;have y:=m;clear m;have n7:mi≠O:=fun e=>by rw[←e,g]at y;cases y
   have T:bi≠O:=fun e=>by rw[←e,q]at y;cases y
   repeat' (first|with_reducible apply C9p|simp only[go_sem,seval,g,q,X9 _ _ _ _ x,A2v,A3 _ n7,A3 _ T]|simp(disch:=omega) only[A4,A9,D0]|simp(disch:=first|omega|grind) only[B9]|intro m|omega)
   refine C2 (j+1) (by omega) (by omega) (by(try simp only[go_sem,seval])<;>(try simp(disch:=omega) [A4])) ?_;rw[z,←i];rw[←i]at y;intro k o hk;by_cases C:k=mi
   ·subst C;rw[A2]at hk⊢;exact hk
   ·rw[A3 _ C]at hk⊢;have g2:k≠O:=fun e=>by subst e;rw[A3 _ C,hk]at y;cases y
    rw[A3 _ g2,A3 _ C];exact hk
  ·have u:decide ((j:Int)<f.l.t.length)=false:=C9s (by omega);rw[C94 (by omega)]at g q⊢;repeat' simp only[go_sem,seval,u]
   refine D1H (B0d a (A4w a f d) H _ g (by rw[A3 _ f1.symm];exact J) q (by rw[A3 _ f4];exact c4) (fun k o G U=>by rw[A3 _ (I k G).1];exact cH k o G U)) h
theorem B65{bi bb mi mb:Nat}(F:B9Z bi bb mi mb):Vis Tryz.prog (List ByteArray×List ByteArray) 86 [.box bb 0,.box bi 0] (P8 bi bb mi mb) A4w (fun a=>a.1.Nodup∧a.2.Nodup) (fun _=>True) where
 dom a a' i h:=B6x a a' i h
 inv a f d h:=by
  refine⟨T0 _ _ h.1,?_⟩;unfold A4w;simp only[];split
  ·exact A2u h.2
  ·exact h.2
 base _ _ _ _ _:=trivial
 call a f d H Q hI _ fa h:=B64 F a hI.1 hI.2 f fa d H Q h
theorem B66{H:Heap}{b:Nat}{o:Av.Obj}(h:H b=some o):H.set b o=H:=by
 funext k
 unfold Av.Heap.set;by_cases e:k=b
 ·subst e;rw[if_pos rfl,h]
 ·rw[if_neg e]
theorem B67{S H:Heap}(h: ∀k o,S k=some o→H k=some o):ovr S H=H:=by
 funext k
 unfold ovr;cases g:S k with
 |none=>rfl
 |some o=>exact(h k o g).symm
theorem A8d{Q}(l:List Fm)(fl: ∀f∈l,FmFit f)(hlen:l.length≤1466015503658)(H:Heap)(h:Q (.tuple [.fm (C7 tt (I9 (D4.intsL l))),.fm (C7 tt (I9 (C5.boolsL l)))]) H):D7 45 [.sl 7 (Rw C0 l)] H Q:=by
 refine A8 [(7,.ord [0,1,2,3])] A5 Tryz.func45 rfl ?_;simp only[go_sem,seval,Tryz.results45];repeat' (first|simp only[go_sem,seval]|simp(disch:=first|omega|grind) only[B9,F0]|(intro x;try simp only[A6]at x))
 rename_i j h2 m h3 q h6 u;have h7:=x;clear x;obtain⟨F,e1,e2,e3,e4,G⟩:B9Z j m q u∧((((((H.set j (.box [.nilmap])).set m (.box [.nilmap])).set q (.map [])).set u (.map [])).set j (.box [.map q])).set m (.box [.map u])) q=some (.map [])∧((((((H.set j (.box [.nilmap])).set m (.box [.nilmap])).set q (.map [])).set u (.map [])).set j (.box [.map q])).set m (.box [.map u])) u=some (.map [])∧((((((H.set j (.box [.nilmap])).set m (.box [.nilmap])).set q (.map [])).set u (.map [])).set j (.box [.map q])).set m (.box [.map u])) j=some (.box [.map q])∧((((((H.set j (.box [.nilmap])).set m (.box [.nilmap])).set q (.map [])).set u (.map [])).set j (.box [.map q])).set m (.box [.map u])) m=some (.box [.map u])∧H.Le ((((((H.set j (.box [.nilmap])).set m (.box [.nilmap])).set q (.map [])).set u (.map [])).set j (.box [.map q])).set m (.box [.map u])):=by
  obtain⟨I,W⟩:=h3;obtain⟨J,L,X⟩:=h6;obtain⟨M,O,T,Y⟩:=h7;refine⟨⟨M.symm,L.symm,T.symm,J.symm,O.symm,I.symm⟩,?_,?_,?_,?_,fun k o hk=>?_⟩
  ·simp[Av.Heap.set,J,L,M.symm]
  ·simp[Av.Heap.set,O,T]
  ·simp[Av.Heap.set,I.symm]
  ·simp[Av.Heap.set]
  ·have k1:k≠j:=fun e=>by rw[e,h2]at hk;cases hk
   have k2:k≠m:=fun e=>by rw[e,W]at hk;cases hk
   have U:k≠q:=fun e=>by rw[e,X]at hk;cases hk
   have V:k≠u:=fun e=>by rw[e,Y]at hk;cases hk
   simp[Av.Heap.set,k1,k2,U,V,hk]
 generalize ((((((H.set j (.box [.nilmap])).set m (.box [.nilmap])).set q (.map [])).set u (.map [])).set j (.box [.map q])).set m (.box [.map u]))=C at e1 e2 e3 e4 G⊢;have eG:ovr (P8 j m q u ([],[])) C=C:=B67 fun k o hk=>by
  unfold P8 at hk;split at hk
  ·rename_i g;rw[g,e1];exact hk
  ·split at hk
   ·rename_i g;rw[g,e2];exact hk
   ·split at hk
    ·rename_i g;rw[g,e3];exact hk
    ·split at hk
     ·rename_i g;rw[g,e4];exact hk
     ·cases hk
 rw[←eG];have a0: ∀p,H.Le ((ovr (P8 j m q u p) C).del q |>.del u):=fun p k o hk=>by
  have k1:k≠j:=fun e=>by rw[e,h2]at hk;cases hk
  have k2:k≠m:=fun e=>by rw[e,h3.2]at hk;cases hk
  have U:k≠q:=fun e=>by rw[e,h6.2.2]at hk;cases hk
  have V:k≠u:=fun e=>by rw[e,h7.2.2.2]at hk;cases hk
  rw[F0 V,F0 U,A2S (by simp[P8,k1,k2,U,V])];exact G _ _ hk
 refine C9 [2,3,8,9] (fun(p:Nat×(List ByteArray×List ByteArray))=>[(10,.int .i64 p.1)]) (fun(p:Nat×(List ByteArray×List ByteArray))=>ovr (P8 j m q u p.2) C) (fun(p:Nat×(List ByteArray×List ByteArray))=>p.1≤l.length∧p.2=(I9 (D4.intsL (l.take p.1)),I9 (C5.boolsL (l.take p.1)))) (fun(p:Nat×(List ByteArray×List ByteArray))=>l.length-p.1) ((0,([],[]))) (⟨D0A _,rfl⟩) (by(try simp only[go_sem,seval])<;>(try simp(disch:=omega) [A4])) (by first|exact D1G _|exact A0 (by assumption)|exact B2 (by assumption)|simp only[Heap.Le,Heap.set,Heap.del]at* <;>grind) ?_;rintro Ec rfl ⟨i,r⟩ ⟨hi,hr⟩;simp only at hi hr;by_cases y:i<l.length
 ·have A:decide ((i:Int)<l.length)=true:=C9r (by omega);have a4:(i:Int)<l.length:=by omega
  have hm:=C93 y;repeat' (first|with_reducible apply C9p|simp only[go_sem,seval,A,a4,A9 _ _ y,C1 _ _ y]|(intro x;try simp only[A6]at x)|omega)
  rename_i b5;have h5:=x;clear x;obtain⟨s5,g5⟩:=A0x h5;rw[A8c s5];refine B1y (B65 F) l[i] (fl _ hm) 1 r ⟨by rw[hr];exact A1M _,by rw[hr];exact A1M _⟩ _ trivial ?_;rw[B6B];repeat' (first|simp only[go_sem,seval]|simp(disch:=omega) only[A4,A9,D0,A51,A4E])
  refine C2 (i+1,_) ⟨by simp only[];omega,?_⟩ (by simp only[];omega) (by(try simp only[go_sem,seval])<;>(try simp(disch:=omega) [A4])) (B1x (A0 g5));show (List.foldl I1 r.1 _,List.foldl I1 r.2 _)=_;rw[hr,A51 _ _ y,A4E _ _ y];unfold I9;rw[D0h,D0h]
 ·have A:decide ((i:Int)<l.length)=false:=C9s (by omega);rw[C94 (by omega)]at hr;obtain⟨q1,q2,q3,q4⟩:=B0c F r C;have z:=a0 r;have qn:j≠m:=F.f;have f2:=F.b;have f3:=F.c;have f4:=F.d;have f5:=F.e;generalize ovr (P8 j m q u r) C=Bs at q1 q2 q3 q4 z⊢;have m2:j∈[j,m]:=by simp
  have m3:m∈[j,m]:=by simp
  repeat' simp only[go_sem,seval,A]
  refine C1t [j,m] ?_;have s2:Bs.set j (.box [.map q])=Bs:=B66 q3;have s3:Bs.set m (.box [.map u])=Bs:=B66 q4;repeat' (first|with_reducible apply C9p|simp only[go_sem,seval,q3,q4,m2,m3,s2,s3]|(intro x;try simp only[A6]at x))
  all_goals first
   |(subst x;assumption)
   |skip
  rw[hr]at q1 q2;exact A8w q1 q2 F.a.symm (D1H z h)
theorem B10{Q}(ks ms:List ByteArray)(H:Heap)(h:Q (.bool (meetL ks ms)) H):D7 56 [.fm (C7 tt ks),.fm (C7 tt ms)] H Q:=by
 refine A8 [] A5 Tryz.func56 rfl ?_;simp only[go_sem,seval,Tryz.results56];have e:(C7 tt ks).length=ks.length:=by simp[C7]
 repeat' intro o
 rename_i m;have C:=o;clear o;refine C9 [1,7] (fun(s:List Nat)=>[]) (fun(s:List Nat)=>H.set m (.rng (C7 tt ks) s)) (fun(s:List Nat)=>∀(i:Nat) (d:i<ks.length),i∈s→ks[i]∉ms) (fun(s:List Nat)=>A6G ks.length s) ([]) (fun _ _ h=>absurd h D0I) (by simp only[go_sem,seval]) (by first|exact D1G _|exact A0 (by assumption)|exact B2 (by assumption)|simp only[Heap.Le,Heap.set,Heap.del]at* <;>grind) ?_;rintro J rfl s hs;have G:(H.set m (.rng (C7 tt ks) s)) m=some (.rng (C7 tt ks) s):=A2 _ _;have u:H.Le (H.set m (.rng (C7 tt ks) s)):=A0 C;repeat' simp only[go_sem,seval,G]
 refine A77 (fun i d hn=>?_) (fun p=>?_)
 ·rw[e]at d;have z:((H.set m (.rng (C7 tt ks) s)).set m (.rng (C7 tt ks) (s++[i]))) m=some (.rng (C7 tt ks) (s++[i])):=A2 _ _;have A:(C7 tt ks)[i]? =some (.str ks[i],.bool true):=by simp[C7,d]
  have r:(C7 tt ks)[i]'(by rw[e];exact d)=(.str ks[i],.bool true):=by simp[C7]
  by_cases g:ks[i]∈ms
  ·have hm:meetL ks ms=true:=(A3Y _ _).2 ⟨_,C93 d,g⟩;rw[hm]at h;repeat' simp only[go_sem,seval,z,A,r,List.getLast?_concat,A2O,if_pos g]
   exact D1H (by simp only[E6,D2,D3]at* <;>grind) h
  ·repeat' simp only[go_sem,seval,z,A,r,List.getLast?_concat,A2O,if_neg g]
   refine C2 (s++[i]) (fun j I hm=>?_) (A1z d hn) (by simp only[go_sem,seval]) ?_
   ·rcases D0F.1 hm with q|q
    ·exact hs j I q
    ·rw[D0G]at q;subst q;exact g
   ·exact(by simp only[E6,D2,D3]at* <;>grind)
 ·have hm:meetL ks ms=false:=by
   rw[←D1B,A3Y];rintro⟨x,hx,y⟩;obtain⟨i,d,rfl⟩:=List.getElem_of_mem hx;exact hs i d (p i (by rw[e];exact d)) y
  rw[hm]at h;repeat' simp only[go_sem,seval]
  exact D1H u h
end Go.Proofs.YtibphjonmikciaaGreatDoor
namespace Go.Proofs.YtibphjonmikciaaGreatDoor
open Go Go.Av Go.RowKit Go.Maps Go.Sort Go.Shelf Go.Lexs Go.WideElems Go.Lin
theorem A8e{Q}(kvs:List (D×D))(H:Heap)(h: ∀bk,H bk=none→Q (.fn (.func 89) [] [.box bk 0]) (H.set bk (.box [.fm kvs]))):D7 47 [.fm kvs] H Q:=by
 refine⟨by kernel_rfl,fun w vs hl hr hs=>?_⟩;obtain⟨a,rfl,m⟩:=A1m hl hr;obtain⟨b,o⟩: ∃b,a= .map (some b):=by cases m;exact⟨_,rfl⟩
 subst o;refine(callsIn_wide.1 (A0R (some b) w)).mono ?_;rintro e w' ⟨rfl,rfl⟩;have hp:=A27 (K:=fun d H'=>∃bk,d= .box bk 0∧H bk=none∧H'=H.set bk (.box [.fm kvs])) hs (cs:=[.fm kvs]) (vs:= #[.map (some b)]) 72 (Z:=none) (by simp) ⟨rfl,fun i d g=>(match i,g with|0,g=>by cases g;rfl|i+1,g=>by cases g),fun i d g=>(match i,g with|0,g=>by cases g;exact m|i+1,g=>by cases g)⟩ (fun bk j=>⟨bk,rfl,j,rfl⟩);obtain⟨d,x,p,q,r,u,bk,rfl,j,rfl⟩:=hp;refine⟨_,rfl,.fn (.func 89) [] [.box bk 0],_,?_,q,r,u,h bk j⟩;refine .fn _ [] [.box bk 0] #[] #[_] rfl rfl (by simp) fun i d g=>?_
 match i with
 |0=>cases g;exact p
 |i+1=>cases g
theorem A8f{Q}(u:Nat)(f:ByteArray→D)(ks:List ByteArray)(hlen:ks.length≤1000000000)(hsz: ∀s∈ks,s.size≤4611686018427387904)(H:Heap)(h1:H u=some (.box [.fm (C7 f ks)]))
  (h: ∀l:List ByteArray,l.Pairwise (fun x y=>j8 x y=true)→(∀s,s∈l↔s∈ks)→Q (.sl 1 (Rw a7 l)) H):D7 46 [.fn (.func 89) [] [.box u 0]] H Q:=by
 refine⟨by kernel_rfl,fun w vs hl hr hs=>?_⟩;obtain⟨a,rfl,ha⟩:=A1m hl hr;have ea:a= .func (.func 89) #[] #[.pointer (some ⟨u,0,none⟩)]:=by
  cases ha with
  |fn _ _ _ a9 b0 b1 b2 q1 q2=>
   have e1:a9= #[]:=Array.eq_empty_of_size_eq_zero (by simpa using b1.symm);obtain⟨l2⟩:=b0
   match l2,b2 with
   | [x],_=>
    have hx:=q2 0 _ rfl;have:x= .pointer (some ⟨u,0,none⟩):=by
     simp at hx;cases hx;rfl
    rw[e1,this]
 subst ea;obtain⟨c,T,lo,A,c1,_,c2,c3,_⟩:=hs _ _ h1;have h0:=(c3 0 (.fm (C7 f ks)) rfl).2;obtain⟨b,es,m,hx,m1,m2,m3,m4⟩: ∃b es m,c.getD 0 undef= .map (some b)∧w.heap[b]? =some (.map es m)∧MapKept.Stamped es m∧es.size=(C7 f ks).length∧∀(i:Nat) (p:D×D),(C7 f ks)[i]? =some p→p.1.keyA=true∧R w H p.1 (es.getD i default).key∧R w H p.2 (es.getD i default).val:=by
  revert h0;generalize c.getD 0 undef=x;intro h0;cases h0 with
  |fm _ b es ck hb hn hst hl hk hr hv=>exact⟨b,es,ck,rfl,hb,hst,hl,fun i p hp=>⟨hk i p hp,hr i p hp,hv i p hp⟩⟩
 have b3:c[0]? =some (.map (some b)):=by
  have hsz:0<c.size:=by rw[c2];simp
  have e:c[0]? =some (c.getD 0 undef):=by simp[hsz]
  rw[e,hx]
 have G:w.cell? ⟨u,0,none⟩=some (.map (some b)):=by
  unfold World.cell?;simp only[c1];exact b3
 have b4:u<w.heap.size:=hs.lt h1;have O: ∀(i:Nat) (A:i<ks.length),(es.getD i default).key= .string ks[i]:=fun i A=>by
  have:=(m4 i (.str ks[i],f ks[i]) (by simp[C7,A])).2.1;revert this;generalize (es.getD i default).key=x;intro this;cases this;rfl
 have U:es.size=ks.length:=by rw[m3];simp[C7]
 have I:es.toList.map (·.key)=ks.map .string:=by
  apply D1A
  ·simp[U]
  ·intro i h1 h2;have A:i<ks.length:=by simpa using h2
   have:=O i A;have o:i<es.size:=by omega
   simp[o]at this;simp[this]
 have V: ∀x∈es.toList,∃s∈ks,x.key= .string s:=fun x hx=>by
  have:x.key∈es.toList.map (·.key):=D0n.2 ⟨x,hx,rfl⟩;rw[I]at this;obtain⟨s,hs,e⟩:=D0n.1 this;exact⟨s,hs,e.symm⟩
 have W:Tryz.prog.underlying 9=some .string:=by kernel_rfl
 have X: ∀x∈es.toList,∀s,s∈ks→x.key= .string s→WideElems.rd (H:=Unit) Tryz.prog 9 A1Y x=some (.string s.data.toList,.lit (.bool true)):=fun x _ s hs e=>by
  unfold WideElems.rd;rw[e,WideMaps.keyOf_string_mk W (by have:=hsz s hs;unfold maxLen;omega)];rfl
 have Y:w.ownsMap (H:=Unit) Tryz.prog 9 A1Y b es.size (.map ((es.toList.map (rg Tryz.prog 9 A1Y)).foldr DataW.insert [])):=by
  refine⟨es,m,m1,⟨by unfold maxLen;omega,m2,fun x hx=>?_⟩,C99 _,rfl⟩;obtain⟨s,hs,e⟩:=V x hx;exact⟨_,X x hx s hs e⟩
 have b6: ∀x∈es.toList,∀s,s∈ks→x.key= .string s→rg (H:=Unit) Tryz.prog 9 A1Y x=(.string s.data.toList,.lit (.bool true)):=fun x hx s hs e=>rg_of (X x hx s hs e);have b7:(strKeys (H:=Unit) (.map ((es.toList.map (rg Tryz.prog 9 A1Y)).foldr DataW.insert []))).Perm (ks.map B):=by
  show (((es.toList.map (rg Tryz.prog 9 A1Y)).foldr DataW.insert []).map fun p=>strOf p.1).Perm _;refine((y0 _).map _).trans ?_;rw[List.map_map];have:es.toList.map ((fun p=>strOf p.1) ∘ rg (H:=Unit) Tryz.prog 9 A1Y)=ks.map B:=by
   have e2:ks.map B=(es.toList.map (·.key)).map (fun v=>match v with| .string s=>B s|_=>[]):=by rw[I,List.map_map];rfl
   rw[e2,List.map_map];refine List.map_congr_left fun x hx=>?_;obtain⟨s,hs,e⟩:=V x hx;simp only[Function.comp];rw[b6 x hx s hs e,e];rfl
  rw[this]
 have b8:(ks.map B).Nodup:=by
  have:=m2.2.2;rw[I]at this;have h2:List.Pairwise (fun a b:ByteArray=>Value.string a≠Value.string b) ks:=List.pairwise_map.1 this;have M:List.Pairwise (fun a b:ByteArray=>B a≠B b) ks:=h2.imp fun {a b} h e=>h (congrArg Value.string (i7 e));exact List.pairwise_map.2 M
 have a0:=AnyZ.keys_gives (ρ :=Tryz.keys47_ren) {A19 with} Fence.wide 2 trivial rfl (by omega) u b es.size _ w b4 G Y;have a4:Maps.size (.map ((es.toList.map (rg (H:=Unit) Tryz.prog 9 A1Y)).foldr DataW.insert []):DataW Unit)=ks.length:=by
  show (((es.toList.map (rg Tryz.prog 9 A1Y)).foldr DataW.insert [])).length=_;rw[(y0 _).length_eq];simp[U]
 refine(callsIn_wide.1 (AnyZ.sorted_in A2e Fence.wide 5 trivial trivial trivial trivial rfl (by omega) (A3l _) (enters_of Tryz.func88 (by kernel_rfl) rfl) 89 #[.pointer (some ⟨u,0,none⟩)] trivial (enters_of Tryz.func89 (by kernel_rfl) rfl) _ _ (by rw[a4];unfold maxLen;omega) (by rw[a4];omega) w a0)).mono ?_;rintro e w' ⟨v,q,rfl,hS,C,_,hB⟩;have hp:q.Perm (ks.map B):=hS.trans b7;have b9:q.Nodup:=hp.nodup_iff.2 b8;have c0:=B2b b9;have a5: ∀s,s∈(q.mergeSort (fun x y=>decide (x≤y))).map S↔s∈ks:=fun s=>by
  rw[D0n];constructor
  ·rintro⟨x,hx,rfl⟩;have:=hp.mem_iff.1 ((List.mergeSort_perm q _).mem_iff.1 hx);obtain⟨t,ht,rfl⟩:=D0n.1 this;rw[S_B];exact ht
  ·intro hs;refine⟨B s,(List.mergeSort_perm q _).mem_iff.2 (hp.mem_iff.2 (D0n.2 ⟨s,hs,rfl⟩)),S_B s⟩
 refine⟨v,rfl,.sl 1 (Rw a7 ((q.mergeSort (fun x y=>decide (x≤y))).map S)),H,?_,A36 hs hB,A2H hB,D1M _ _,h _ c0 a5⟩;have J:((q.mergeSort (fun x y=>decide (x≤y))).map S).length=q.length:=by simp
 generalize q.mergeSort (fun x y=>decide (x≤y))=zs at C J⊢;obtain⟨r1,r2⟩:=C;rcases r2 with⟨rfl,r3⟩|⟨g,cap,r,rfl,r3,r4,r5,r6,r7,r8⟩
 ·have:zs.map S= []:=D0D (by rw[J,r3]);rw[this];exact .sl0 _ _ _
 ·have L:(Rw a7 (zs.map S)).length=q.length:=by rw[D6,J]
  rw[←L];refine .sl 1 _ g 0 cap (fun i j=>r.getD i undef) ?_ ?_ (fun i e he=>?_) (by rw[L];exact r5) (fun i j A hj=>?_) (fun i e j d he hd=>?_) (fun i e j d he hd=>?_)
  ·by_cases a6:g<w'.heap.size
   ·exact a6
   ·rw[Array.getElem?_eq_none (Nat.le_of_not_lt a6)]at r4;cases r4
  ·exact G9 (hs.fresh r3)
  ·rw[Rw,D0C]at he;obtain⟨x,_,rfl⟩:=C9y.1 he;rfl
  ·have c4:j=0:=by omega
   subst c4;have o:i<r.size:=by rw[L]at A;rw[r7];omega
   unfold World.cell?;simp only[r4];simp[o]
  ·rw[Rw,D0C]at he;obtain⟨x,_,rfl⟩:=C9y.1 he
   match j with
   |0=>cases hd;rfl
   |j+1=>cases hd
  ·rw[Rw,D0C,D0C]at he;obtain⟨x,hx,rfl⟩:=C9y.1 he;obtain⟨z,hz,rfl⟩:=C9y.1 hx
   match j with
   |0=>
    cases hd;have A:i<zs.length:=(C9z.1 hz).1;have M:(r.toList.take (q.length*1))[i]? =some (encStr z):=by rw[r8,D0C,hz];rfl
    rw[List.getElem?_take]at M;split at M
    ·have:r[i]? =some (encStr z):=by simpa using M
     have e:r.getD i undef=encStr z:=by
      have o:=(D0E.1 this)
      obtain⟨c5,c6⟩:=o;simp[c5,c6]
     rw[e];exact .str _
    ·cases M
   |j+1=>cases hd
end Go.Proofs.YtibphjonmikciaaGreatDoor
namespace Go.Proofs.YtibphjonmikciaaGreatDoor
open Go Go.Av Go.Lexs Go.Lin Go.Fo
attribute [local irreducible] ACalls W4
theorem A3d{Q}{b n:Nat}{H0:Heap}(d:H0 b=none)(f:Fm)(e:FmFit f)(hn:n=1)(h:Q (.tuple [.fm (C7 tt (I9 (D4 f))),.fm (C7 tt (I9 (C5 f)))]) H0):D7 45 [.vec b 7 0 n] (H0.set b (.vec 7 [C0 f])) Q:=by
 subst hn;refine T5 (es:=Rw C0 [f]) (A2 _ _) rfl ?_;rw[E9 d];refine A8d [f] (fun k hk=>by rw[D0G]at hk;rw[hk];exact e) (by simp) _ ?_;have e1:D4.intsL [f]=D4 f:=by simp[D4.intsL]
 have e2:C5.boolsL [f]=C5 f:=by simp[C5.boolsL]
 rw[e1,e2];exact h
theorem Q5{Q}(f:Fm)(z:FmFit f)(L:VOk f)(H:Heap)(h:Q (.bool (E5 f)) H):D7 18 [.agg (C0 f)] H Q:=by
 refine A8 [] A5 Tryz.func18 rfl ?_;simp only[go_sem,seval,Tryz.results18];rw[←B0e L]at h;intro p h1;have e1:(H.set p (.box (C0 f))) p=some (.box (C0 f)):=A2 _ _;have q:H.Le (H.set p (.box (C0 f))):=A0 h1;generalize H.set p (.box (C0 f))=Bs at e1 q⊢;repeat' (first|simp only[go_sem,seval,e1]|simp(disch:=first|omega|grind) only[B9]|intro j|with_reducible refine B9a f z _ ?_)
 rename_i i;have y:=j;clear j;have r:p≠i:=fun e=>by rw[←e,e1]at y;cases y
 have A:(Bs.set i (.box [.bool (V7 f)])) p=some (.box (C0 f)):=by rw[A3 _ r];exact e1
 repeat' (first|with_reducible apply C9p|simp only[go_sem,seval,A]|simp(disch:=omega) only[A4,D0]|simp(disch:=first|omega|grind) only[B9]|intro j|omega)
 refine Eq.mpr (congrArg (fun X=>ACalls _ _ _ X _) (C8c i (V7 f) Bs)) ?_;refine B1y (B63 i) f z 1 (V7 f) trivial _ trivial ?_;rw[B59];have e3:ovr (l7 i (V7 f&&G8 D5 f)) Bs i=some (.box [.bool (V7 f&&G8 D5 f)]):=A0b (o:=B6w _) (by simp[l7]);have M:ovr (l7 i (V7 f&&G8 D5 f)) Bs p=some (.box (C0 f)):=by rw[A2S (by simp[l7,r])];exact e1
 have d:H.Le (ovr (l7 i (V7 f&&G8 D5 f)) Bs):=fun k o hk=>by
  have U:k≠i:=fun e=>by subst e;rw[q _ _ hk]at y;cases y
  rw[A2S (by simp[l7,U])];exact q _ _ hk
 generalize ovr (l7 i (V7 f&&G8 D5 f)) Bs=Cs at e3 M d⊢;cases m:V7 f&&G8 D5 f with
 |false=>
  rw[m]at h e3;simp only[Bool.false_and]at h;repeat' simp only[go_sem,seval,e3]
  exact D1H d h
 |true=>
  rw[m]at h e3;simp only[Bool.true_and]at h;have u:G8 D5 f=true:=by rw[C92]at m;exact m.2
  have hw:K9 f≤1000000:=by
   rcases L with g|g
   ·exact g
   ·rw[u]at g;cases g
  have V:=B0B f;have k1:=A49 (D4 f);have k2:=A49 (C5 f);have O:=A3X (D4 f);have T:=A3X (C5 f);have C:(C7 tt (I9 (D4 f))).length=(ivF f).length:=by rw[show (C7 tt (I9 (D4 f))).length=(I9 (D4 f)).length by simp[C7],O];rfl
  have G:(C7 tt (I9 (C5 f))).length=(bvF f).length:=by rw[show (C7 tt (I9 (C5 f))).length=(I9 (C5 f)).length by simp[C7],T];rfl
  have W:(ivF f).length≤1000000:=by have:(I9 (D4 f)).length=(ivF f).length:=O;omega
  have Y:(bvF f).length≤1000000:=by have:(I9 (C5 f)).length=(bvF f).length:=T;omega
  have I:meetL (I9 (D4 f)) (I9 (C5 f))=meetL (ivF f) (bvF f):=A1N (fun x=>by unfold ivF;rw[F9,S3]) (fun x=>by unfold bvF;rw[F9,S3]);have J:decide ((ivF f).length+(bvF f).length≤12)=decide (((ivF f).length:Int)+(bvF f).length≤12):=D0S.2 (by omega);rw[J,←I]at h;generalize meetL (I9 (D4 f)) (I9 (C5 f))=mt at h I;have bc: ∀(H:Heap) (Q:D→Heap→Prop),Q (.bool mt) H→D7 56 [.fm (C7 tt (I9 (D4 f))),.fm (C7 tt (I9 (C5 f)))] H Q:=fun H Q hq=>B10 _ _ H (by rw[A1N (l':=ivF f) (m':=bvF f) (fun x=>by unfold ivF;rw[F9,S3]) (fun x=>by unfold bvF;rw[F9,S3]),←I];exact hq);repeat' (first|with_reducible apply C9p|simp only[go_sem,seval,e3,M,C,G]|simp(disch:=omega) only[A4,D0]|intro j|with_reducible refine A3d (by assumption) f z rfl ?_|with_reducible refine bc _ _ ?_)
  all_goals (refine D1H d ?_;simp_all)
theorem C3J{Q}(f:Fm)(j:FmFit f)(p:VOk f)(H:Heap)(h:Q (if E5 f=true then .tuple [.sl 1 (Rw a7 (ivF f)),.sl 1 (Rw a7 (bvF f)),.int .i64 0]else .tuple [.sl 1 [],.sl 1 [],.int .i64 2]) H):D7 14 [.agg (C0 f)] H Q:=by
 refine A8 [] A5 Tryz.func14 rfl ?_;simp only[go_sem,seval,Tryz.results14];intro o h1;have e1:(H.set o (.box (C0 f))) o=some (.box (C0 f)):=A2 _ _;have e:H.Le (H.set o (.box (C0 f))):=A0 h1;generalize H.set o (.box (C0 f))=Bs at e1 e⊢;cases hv:E5 f with
 |false=>
  rw[hv]at h;simp only[C95,if_false]at h;have q: ∀(H:Heap) (Q:D→Heap→Prop),Q (.bool false) H→D7 18 [.agg (C0 f)] H Q:=fun H Q hq=>Q5 f j p H (by rw[hv];exact hq);repeat' (first|simp only[go_sem,seval,e1]|with_reducible refine q _ _ ?_)
  refine E3 (d':=.tuple [.sl 1 [],.sl 1 [],.int .i64 2]) (.tuple _ _ rfl fun i d d' h1 r=>?_) (D1H e h)
  match i with
  |0=>cases h1;cases r;exact .nil 1
  |1=>cases h1;cases r;exact .nil 1
  |2=>cases h1;cases r;exact .same _
  |i+3=>cases h1
 |true=>
  rw[hv]at h;simp only[if_true]at h;have q: ∀(H:Heap) (Q:D→Heap→Prop),Q (.bool true) H→D7 18 [.agg (C0 f)] H Q:=fun H Q hq=>Q5 f j p H (by rw[hv];exact hq);repeat' (first|simp only[go_sem,seval,e1]|intro y|with_reducible refine q _ _ ?_|with_reducible refine A3d (by assumption) f j rfl ?_)
  refine A8e _ _ fun z u=>?_;have hw:K9 f≤1000000:=by
   rcases p with g|g
   ·exact g
   ·rw[L5 hv]at g;cases g
  have A:=B0B f;have C:=A49 (D4 f);have G:=A49 (C5 f);repeat' simp only[go_sem,seval]
  refine A8f z tt (I9 (D4 f)) (by omega) (fun s hs=>by have:=B32 j s ((F9 _ _).1 hs);omega) _ (A2 _ _) fun v hv hm=>?_;have ev:v=ivF f:=A5p hv (A8S _) fun s=>by rw[hm,F9];exact(S3 _ _).symm
  rw[ev];repeat' simp only[go_sem,seval]
  refine A8e _ _ fun x m=>?_;repeat' simp only[go_sem,seval]
  refine A8f x tt (I9 (C5 f)) (by omega) (fun s hs=>by have:=B1Y j s ((F9 _ _).1 hs);omega) _ (A2 _ _) fun v hv hm=>?_;have ev:v=bvF f:=A5p hv (A8S _) fun s=>by rw[hm,F9];exact(S3 _ _).symm
  rw[ev];repeat' simp only[go_sem,seval]
  exact D1H ((e.trans (A0 u)).trans (A0 m)) h
end Go.Proofs.YtibphjonmikciaaGreatDoor
namespace Go.Fo
open Go Go.Av Go.Lexs Go.Lin
theorem B68(l:LinV)(d:Int)(i:Nat)(h:i<l.t.length):Rw Q7 ((shL l d).t.take (i+1))=Rw Q7 ((shL l d).t.take i)++[[.str l.t[i].v,.int .i64 (d*l.t[i].c)]]:=by
 rw[Q3 _ i (by unfold shL;simpa using h)]
 congr 2
 unfold shL;simp
theorem B11{Q:D→Heap→Prop}{H Bs:Heap}{d x n:Nat}{o:Int}{es:List (List D)}(ks:List Fm)(i:es=Rw C0 ks)(hn:n=ks.length)(g:H.Le Bs)(p:H d=none){z:Av.Obj}(r:Bs d=some z)(hx:Bs x=none)(y:Av.Obj)(h:Q (.agg (C0 (.mk o 0 nilL D1 ks))) H):
  Fin Q (.agg [.int .i64 o,.int .i64 0,.nilsl,.int .i64 0,.bool false,.str ⟨#[]⟩,.vec x 7 0 n]) ((Bs.set x (.vec 7 es)).set d y):=by
 subst i;have j:x≠d:=fun e=>by rw[e,r]at hx;cases hx
 refine A8U (ob:=some x) (ks:=ks) hn (show (Heap.set _ d y) x=_ by rw[A3 _ j,A2]) (D1H (fun k q hk=>?_) h);have m:k≠x:=fun e=>by rw[←e,g _ _ hk]at hx;cases hx
 have u:k≠d:=fun e=>by rw[e,p]at hk;cases hk
 show Heap.del _ x k=_;rw[F0 m,A3 _ u,A3 _ m];exact g _ _ hk
theorem B69: ∀(f:Fm),G8 D5 f=true→K9 f≤13*I8 f:=by
 intro f
 induction f using P2 with
 |h o n l s ks j=>
  intro d;have hk: ∀k∈ks,G8 D5 k=true:=fun k hk=>N8 (f:=.mk o n l s ks) d hk;have i:=B3F (f:=.mk o n l s ks) (by rw[A2P,C92]at d;exact d.1);have i:l.t.length≤12:=i;rw[K9,I8];have key: ∀m:List Fm,(∀k∈m,k∈ks)→K9.wtL m≤13*I8.nodesL m:=by
   intro m
   induction m with
   |nil=>intro _;simp[K9.wtL,I8.nodesL]
   |cons g p e=>
    intro hm;have q:=j g (hm g (C90 ..)) (hk g (hm g (C90 ..)));have r:=e fun k h=>hm k (C97 _ h);rw[K9.wtL,I8.nodesL];omega
  have:=key ks fun _ h=>h;omega
theorem A6H{f:Fm}(h:E5 f=true):K9 f≤2600:=by
 have h1:=B69 f (L5 h);rw[A2Q]at h;simp only[C92,D0B]at h;omega
end Go.Fo
namespace Go.Proofs.YtibphjonmikciaaGreatDoor
open Go Go.Av Go.Lexs Go.Lin Go.Fo
attribute [local irreducible] ACalls W4
theorem A4K{Q}(l:LinV)(hv:validL l=true)(g:Int)(hs:g=1∨g= -1)(H:Heap)(h:Q (.agg (E4 (shL l g))) H):D7 92 [.agg (E4 l),.int .i64 g] H Q:=by
 refine A8 [] A5 Tryz.func92 rfl ?_;simp only[go_sem,seval,Tryz.results92];have ok:=L9 hv;have b1:=ok.len;have b3:=ok.k;obtain⟨j,C⟩: ∃j,j=g*l.k:=⟨_,rfl⟩
 have b6:j.natAbs≤1099511627776:=by rcases hs with rfl|rfl<;>omega
 have L:(shL l g).k=j-1:=by rw[C];rfl
 intro q g2 m J;simp only[A6]at J;have M:q≠m:=fun e=>J.1 e.symm;obtain⟨Z,hZ⟩: ∃Z:List D,Z= [.nilsl,.int .i64 0,.bool false]:=⟨_,rfl⟩
 rw[←hZ];have e2:((H.set q (.box (E4 l))).set m (.box Z)) q=some (.box (E4 l)):=by rw[A3 _ M,A2]
 have O:((H.set q (.box (E4 l))).set m (.box Z)) m=some (.box Z):=A2 _ _;have u:H.Le ((H.set q (.box (E4 l))).set m (.box Z)):=(A0 g2).trans (A0 (by simp only[A6];exact J));generalize (H.set q (.box (E4 l))).set m (.box Z)=Bs at e2 O u⊢;repeat' (first|simp only[go_sem,seval,e2,←C]|simp(disch:=omega) only[A4,A9,D0]|simp(disch:=first|omega|grind) only[B9]|(intro d;try simp only[A6]at d))
 rename_i b5;have h5:=d;clear d;have n5:q≠b5∧m≠b5:=⟨fun e=>(by rw[←e,e2]at h5;cases h5),fun e=>(by rw[←e,O]at h5;cases h5)⟩
 have c5:(Bs.set b5 (.box [.nilsl,.int .i64 (j-1),.bool false])) b5=some (.box [.nilsl,.int .i64 (j-1),.bool false]):=A2 _ _;have c2:(Bs.set b5 (.box [.nilsl,.int .i64 (j-1),.bool false])) q=some (.box (E4 l)):=by rw[A3 _ n5.1];exact e2
 have T:(Bs.set b5 (.box [.nilsl,.int .i64 (j-1),.bool false])) m=some (.box Z):=by rw[A3 _ n5.2];exact O
 have U:H b5=none:=u.none h5;have r:H.Le (Bs.set b5 (.box [.nilsl,.int .i64 (j-1),.bool false])):=u.trans (A0 h5);generalize Bs.set b5 (.box [.nilsl,.int .i64 (j-1),.bool false])=Cs at c5 c2 T r⊢;repeat' (first|with_reducible apply C9p|simp only[go_sem,seval,c2]|simp(disch:=omega) only[A4,A9,D0]|simp(disch:=first|omega|grind) only[B9]|(intro d;try simp only[A6]at d)|omega)
 refine C9 [1,4,5,15,16] (fun(p:Nat×Option Nat×Heap)=>[(17,.int .i64 p.1)]) (fun(p:Nat×Option Nat×Heap)=>p.2.2) (fun(p:Nat×Option Nat×Heap)=>p.1≤l.t.length∧AH 2 Cs b5 (fun x=>[x,.int .i64 (j-1),.bool false]) (Rw Q7 ((shL l g).t.take p.1)) p.1 p.2.1 p.2.2) (fun(p:Nat×Option Nat×Heap)=>l.t.length-p.1) ((0,none,Cs)) (⟨D0A _,A16 c5⟩) (by(try simp only[go_sem,seval])<;>(try simp(disch:=omega) [A4])) (by first|exact D1G _|exact A0 (by assumption)|exact B2 (by assumption)|simp only[Heap.Le,Heap.set,Heap.del]at* <;>grind) ?_;rintro Ec rfl ⟨i,ob,Hp⟩ ⟨hi,A⟩;simp only at hi A;have V:(shL l g).t.length=l.t.length:=by unfold shL;simp
 by_cases o:i<l.t.length
 ·have y:decide ((i:Int)<l.t.length)=true:=C9r (by omega);have W:(i:Int)<l.t.length:=by omega
  obtain⟨z,hz⟩: ∃z,z=g*l.t[i].c:=⟨_,rfl⟩
  have b8:z.natAbs≤1048576:=by
   have:=(M7 ok.t _ (C93 o)).2.2;rcases hs with rfl|rfl<;>omega
  repeat' (first|with_reducible apply C9p|simp only[go_sem,seval,y,W,A9 _ _ o,C1 _ _ o]|(intro d;try simp only[A6]at d)|omega)
  rename_i b7;have h7:=d;clear d;obtain⟨d1,d7,dO,dN⟩:=A.at7 h7 (.box [.str l.t[i].v,.int .i64 l.t[i].c]);repeat' (first|simp only[go_sem,seval,d1,d7,←hz]|simp(disch:=omega) only[A4,A9,D0]|(intro d;try simp only[A6]at d))
  rename_i x;have hx:=d;clear d;obtain⟨X,Y⟩:=hx;have G:(Hp.set b7 (.box [.str l.t[i].v,.int .i64 l.t[i].c])) x=none:=by rw[A3 _ X];exact Y
  have A7:=A.more h7 (.box [.str l.t[i].v,.int .i64 l.t[i].c]);obtain⟨_,_,a0,_⟩:=A7.at7 G (.vec 2 [[.str l.t[i].v,.int .i64 z]]);refine A8A (Rw Q7 ((shL l g).t.take i)) (by simp) (by rw[Z0 _ _ (by omega)]) a0 (by simp only[C9u,C9w];omega) (by simp only[C9u,C9w];omega) fun b' a4=>?_;obtain⟨b0,a5,A'⟩:=A7.step G _ a4 [.str l.t[i].v,.int .i64 z];revert A';generalize a6:((K7 ((Hp.set b7 (.box [.str l.t[i].v,.int .i64 l.t[i].c])).set x (.vec 2 [[.str l.t[i].v,.int .i64 z]])) ob).set b' (.vec 2 (Rw Q7 ((shL l g).t.take i)++[[.str l.t[i].v,.int .i64 z]]))).set b5 (.box [.vec b' 2 0 (i+1),.int .i64 (j-1),.bool false])=Hf;intro A';repeat' (first|simp only[go_sem,seval,a5]|simp(disch:=omega) only[A4,A9,D0])
  exact C2 (i+1,some b',Hf) ⟨by simp only[];omega,by simp only[];rw[B68 l g i o,←hz];exact A'⟩ (by simp only[];omega) (by(try simp only[go_sem,seval])<;>(try simp(disch:=omega) [A4])) (by rw[←a6];exact D1G _)
 ·have y:decide ((i:Int)<l.t.length)=false:=C9s (by omega);have a9:i=l.t.length:=by omega
  have I:=A.keep m _ n5.2 T;rw[C94 (by omega)]at A;have A1:=A.box;rw[hZ]at I;have o1:=A59 2 i ob;repeat' (first|with_reducible apply C9p|simp only[go_sem,seval,y,A1,I,o1]|simp(disch:=first|omega|grind) only[B9])
  rw[←L];refine C2o (l:=shL l g) (by rw[V];exact a9) (A.out2 T _) (D1H (A.le2 r U J.2 _) h)
theorem A4L{Q}(l:LinV)(H:Heap)(h:Q (.agg (C0 (A0C l))) H):D7 78 [.agg (E4 l)] H Q:=by
 refine A8 [] A5 Tryz.func78 rfl ?_;simp only[go_sem,seval,Tryz.results78];repeat' (first|simp only[go_sem,seval]|simp(disch:=first|omega|grind) only[B9]|(intro d;try simp only[A6]at d))
 rename_i j h1 m;have p:=d;clear d;refine E3 (C2n 2 0 l D1) (D1H (fun k o hk=>?_) h);have g:k≠j:=fun e=>by rw[e,h1]at hk;cases hk
 have i:k≠m:=fun e=>by rw[e,p.2]at hk;cases hk
 first|(rw[A3 _ i,A3 _ g];exact hk)|(rw[A3 _ i,A3 _ i,A3 _ g];exact hk)|(rw[A3 _ g];exact hk)
theorem B7A(n:Nat): ∀{Q} (f:Fm) (hn:SizeOf.sizeOf f≤n) (hf:G8 D5 f=true) (fa:FmFit f) (b:Bool) (H:Heap) (h:Q (.agg (C0 (normF f b))) H),D7 50 [.agg (C0 f),.bool b] H Q:=by
 induction n with
 |zero=>intro Q f hn;cases f;simp at hn
 |succ n ih=>
 intro Q f hn hf fa b H h;refine A8 [(10,.par),(21,.wk),(24,.par)] A5 Tryz.func50 rfl ?_;simp only[go_sem,seval,Tryz.results50];have a5:=fa.kl;intro q g2 r g4;simp only[A6]at g4;have c7:q≠r:=fun e=>g4.1 e.symm;obtain⟨Z,U⟩: ∃Z:List D,Z= [.int .i64 0,.int .i64 0,.nilsl,.int .i64 0,.bool false,.str ⟨#[]⟩,.nilsl]:=⟨_,rfl⟩
 rw[←U];have e2:((H.set q (.box (C0 f))).set r (.box Z)) q=some (.box (C0 f)):=by rw[A3 _ c7,A2]
 have j:((H.set q (.box (C0 f))).set r (.box Z)) r=some (.box Z):=A2 _ _;have g:H.Le ((H.set q (.box (C0 f))).set r (.box Z)):=(A0 g2).trans (A0 (by simp only[A6];exact g4));have z: ∀x,H.Le (((H.set q (.box (C0 f))).set r (.box Z)).set r x):=fun x=>G4 g g4.2;have O: ∀x y,H.Le ((((H.set q (.box (C0 f))).set r (.box Z)).set q x).set r y):=fun x y=>G4 (G4 g g2) g4.2;generalize (H.set q (.box (C0 f))).set r (.box Z)=Bs at e2 j g z O⊢;cases Q4 hf with
 |con m hm=>
  rw[B2w b rfl]at h;simp only[Fm.n,Fm.l,Fm.s,Fm.ks,d9]at h;rw[U]at j;have q4: ∀x,(Bs.set q x) r=some (.box Z):=fun x=>by rw[A3 _ c7.symm];rw[U];exact j
  rw[U]at q4;rcases hm with rfl|rfl<;>cases b
  all_goals
   repeat' (first|simp only[go_sem,seval,e2,j,q4]|simp(disch:=omega) only[A4,A9,D0])
   first
    |exact D1H (z _) (by simpa using h)
    |exact D1H (O _ _) (by simpa using h)
 |lin l hl hp=>
  rw[B2x b rfl]at h;cases b with
  |false=>
   simp only[C95,if_false,d9]at h;rw[U]at j;repeat' simp only[go_sem,seval,e2,j]
   exact D1H (z _) h
  |true=>
   simp only[if_true,Fm.l]at h;unfold opL at h;have d0:=j;rw[U]at j;cases he:l.e with
   |true=>
    rw[if_pos he]at h;repeat' simp only[go_sem,seval,e2,he]
    have m2:q∈[q]:=by simp
    refine F5 (fun i=>if i=2 then .agg (E4 (shL l 1))else if i=3 then .agg (C0 (A0C (shL l 1)))else if i=6 then .agg (E4 (shL l (-1)))else if i=7 then .agg (C0 (A0C (shL l (-1))))else .undef) [q] ?_;repeat' (first|simp only[go_sem,seval,e2,j,m2]|simp(disch:=first|omega|grind) only[B9]|(intro d;try simp only[A6]at d)|with_reducible refine R0 (fun H' Q hro hq=>A4K l hl 1 (.inl rfl) H' hq) ?_|with_reducible refine R0 (fun H' Q hro hq=>A4K l hl (-1) (.inr rfl) H' hq) ?_|with_reducible refine R0 (fun H' Q hro hq=>A4L (shL l 1) H' hq) ?_|with_reducible refine R0 (fun H' Q hro hq=>A4L (shL l (-1)) H' hq) ?_)
    exact B11 [A0C (shL l 1),A0C (shL l (-1))] rfl rfl g g4.2 j (by assumption) _ h
   |false=>
    rw[if_neg (by rw[he];decide)]at h;have sc:=fun(Q:D→Heap→Prop) (H:Heap)=>A4K (Q:=Q) l hl (-1) (.inr rfl) H;rw[show E4 l= [.sl 2 (Rw Q7 l.t),.int .i64 l.k,.bool false]by rw[B1P,he]]at sc;repeat' (first|simp only[go_sem,seval,e2,j,he]|with_reducible refine sc _ _ ?_|with_reducible refine A4L _ _ ?_)
    exact D1H (z _) h
 |var s hp=>
  rw[B2y b rfl]at h;cases b with
  |false=>
   simp only[C95,if_false,d9]at h;rw[U]at j;repeat' simp only[go_sem,seval,e2,j]
   exact D1H (z _) h
  |true=>
   simp only[if_true]at h;rw[U]at j;repeat' (first|simp only[go_sem,seval,e2,j]|simp(disch:=first|omega|grind) only[B9]|(intro d;try simp only[A6]at d))
   exact B11 [.mk 3 0 nilL s []] (by simp[Rw,d9]) rfl g g4.2 j (by assumption) _ h
 |not k=>
  rw[B2z b rfl rfl]at h;rw[U]at j;have r0:(Rw C0 [k]).getD 0 []=C0 k:=rfl;have hsz:SizeOf.sizeOf k<SizeOf.sizeOf (Fm.mk 4 0 nilL D1 [k]):=A0N (f:=.mk 4 0 nilL D1 [k]) (C90 ..);repeat' (first|with_reducible apply C9p|simp only[go_sem,seval,e2,j,r0]|with_reducible refine ih k (by omega) (N8 hf (C90 ..)) (fa.kid (C90 ..)) (!b) _ ?_|omega)
  all_goals first
   |exact D1H (z _) h
   |decide
   |omega
 |and ks=>
  have a6: ∀k∈ks,G8 D5 k=true:=fun k hk=>N8 (f:=.mk 5 0 nilL D1 ks) hf hk;have a9: ∀k∈ks,FmFit k:=fun k hk=>fa.kid hk;have a5:ks.length≤1466015503658:=a5;rw[A7K b (by simp[Fm.op]) (by simp[Fm.op]) (by simp[Fm.op]) (by simp[Fm.op])]at h;simp only[Fm.op,Fm.ks]at h;apply A6A (C:=fun b5 G=>H.Le G∧H b5=none∧r≠b5∧q≠b5∧G q=some (.box (C0 (.mk 5 0 nilL D1 ks)))∧G r=some (.box Z)∧G b5=some (.box [.int .i64 (opO 5 b),.int .i64 0,.nilsl,.int .i64 0,.bool false,.str ⟨#[]⟩,.nilsl]))
  ·intro hJ;by_cases hb:b=true
   rotate_left
   ·have hb:b=false:=by simpa using hb
    repeat' (first|simp only[go_sem,seval,e2,hb]|(intro d;try simp only[A6]at d))
    rename_i b5;have h5:=d;clear d;have T:q≠b5:=fun e=>by rw[←e,e2]at h5;cases h5
    have V:r≠b5:=fun e=>by rw[←e,j]at h5;cases h5
    exact v8 [(1,.bool b),(2,.box q 0),(4,.box r 0),(5,.box b5 0)] _ (by simp only[go_sem,seval,hb]) (D1G _) (hJ b5 _ ⟨g.trans (A0 h5),g.none h5,V,T,by rw[A3 _ T];exact e2,by rw[A3 _ V];exact j,by rw[A2,hb];rfl⟩)
   ·repeat' (first|simp only[go_sem,seval,e2,hb]|simp(disch:=omega) only[A4,A9,D0]|simp(disch:=first|omega|grind) only[B9]|(intro d;try simp only[A6]at d))
    rename_i b5;have h5:=d;clear d;have T:q≠b5:=fun e=>by rw[←e,e2]at h5;cases h5
    have V:r≠b5:=fun e=>by rw[←e,j]at h5;cases h5
    have q2: ∀x,(Bs.set b5 x) q=some (.box (C0 (.mk 5 0 nilL D1 ks))):=fun x=>by rw[A3 _ T];exact e2
    repeat' (first|with_reducible apply C9p|simp only[go_sem,seval,q2,hb]|simp(disch:=omega) only[A4,A9,D0]|simp(disch:=first|omega|grind) only[B9]|(intro d;try simp only[A6]at d)|omega)
    refine v8 [(1,.bool b),(2,.box q 0),(4,.box r 0),(5,.box b5 0)] _ (by simp only[go_sem,seval,hb]) (D1G _) (hJ b5 _ ⟨fun k o hk=>?_,g.none h5,V,T,?_,?_,?_⟩)
    ·have:k≠b5:=fun e=>by rw[e,g.none h5]at hk;cases hk
     rw[A3 _ this];exact g _ _ hk
    ·rw[A3 _ T];exact e2
    ·rw[A3 _ V];exact j
    ·rw[A2,hb];rfl
  rintro b5 Cs ⟨W,b0,b1,c9,b3,b6,e5⟩;clear e2 j z O g;have e2:=b3;have j:=b6;obtain⟨oo,b8⟩: ∃oo,oo=opO 5 b:=⟨_,rfl⟩
  rw[←b8]at e5 h;repeat' simp only[go_sem,seval,e2]
  refine C9 [1,4,5,67,68] (fun(p:Nat×Option Nat×Heap)=>[(69,.int .i64 p.1)]) (fun(p:Nat×Option Nat×Heap)=>p.2.2) (fun(p:Nat×Option Nat×Heap)=>p.1≤ks.length∧AH 7 Cs b5 (fun x=>[.int .i64 oo,.int .i64 0,.nilsl,.int .i64 0,.bool false,.str ⟨#[]⟩,x]) (Rw C0 ((ks.map (normF · b)).take p.1)) p.1 p.2.1 p.2.2) (fun(p:Nat×Option Nat×Heap)=>ks.length-p.1) ((0,none,Cs)) (⟨D0A _,A16 e5⟩) (by(try simp only[go_sem,seval])<;>(try simp(disch:=omega) [A4])) (by first|exact D1G _|exact A0 (by assumption)|exact B2 (by assumption)|simp only[Heap.Le,Heap.set,Heap.del]at* <;>grind) ?_;rintro Ec rfl ⟨i,ob,Hp⟩ ⟨hi,A⟩;simp only at hi A;have b9:(ks.map (normF · b)).length=ks.length:=by simp
  by_cases J:i<ks.length
  ·have L:decide ((i:Int)<ks.length)=true:=C9r (by omega);have c0:(i:Int)<ks.length:=by omega
   have hm:=C93 J;have hsz:SizeOf.sizeOf ks[i]<SizeOf.sizeOf (Fm.mk 5 0 nilL D1 ks):=A0N (f:=.mk 5 0 nilL D1 ks) hm;repeat' (first|with_reducible apply C9p|simp only[go_sem,seval,L,c0,A9 _ _ J,C1 _ _ J]|(intro d;try simp only[A6]at d)|omega)
   rename_i I;have h7:=d;clear d;obtain⟨d1,d7,dO,dN⟩:=A.at7 h7 (.box (C0 ks[i]));refine F5 (fun i'=>.agg (C0 (normF ks[i] b))) [b5,I] ?_;have m1:b5∈[b5,I]:=by simp
   have m7:I∈[b5,I]:=by simp
   repeat' (first|simp only[go_sem,seval,d1,d7,m1,m7]|(intro d;try simp only[A6]at d)|with_reducible refine R0 (fun H' Q hro hq=>ih ks[i] (by omega) (a6 _ hm) (a9 _ hm) b H' hq) ?_)
   rename_i x;have hx:=d;clear d;obtain⟨X,c1⟩:=hx;have u:(Hp.set I (.box (C0 ks[i]))) x=none:=by rw[A3 _ X];exact c1
   obtain⟨M,Y⟩:=A5A dO u (.vec 7 [C0 (normF ks[i] b)]);have c2:x∉[b5,I]:=by
    simp only[D0H,D0I,or_false,not_or];exact⟨fun e=>(by rw[e,d1]at u;cases u),X⟩
   have c3: ∀c,ob=some c→c∉[b5,I]:=fun c e=>by
    simp only[D0H,D0I,or_false,not_or];exact⟨(A.fresh c e).2,dN c e⟩
   refine B0D 28 96 (n:=i) (m:=1) (bx:=x) (ob:=ob) (es:=Rw C0 ((ks.map (normF · b)).take i)) (xs:=[C0 (normF ks[i] b)]) (by simp only[go_sem,seval]) (by decide) (by simp only[go_sem,seval]) (by simp only[go_sem,seval]) (by simp only[go_sem,seval]) (by simp only[go_sem,seval]) (A2 _ _) rfl (by simp) M (Z0 _ _ (by omega)).symm c2 Y c3 (by simp only[C9u,C9w];omega) (by simp only[C9u,C9w];omega) fun b' a0=>?_;rw[E9 u]at a0⊢;obtain⟨c8,c4,A'⟩:=A.step h7 _ a0 (C0 (normF ks[i] b));revert A';generalize c5:((K7 (Hp.set I (.box (C0 ks[i]))) ob).set b' (.vec 7 (Rw C0 ((ks.map (normF · b)).take i)++[C0 (normF ks[i] b)]))).set b5 (.box [.int .i64 oo,.int .i64 0,.nilsl,.int .i64 0,.bool false,.str ⟨#[]⟩,.vec b' 7 0 (i+1)])=Hf;intro A';repeat' (first|simp only[go_sem,seval,c4,m1]|simp(disch:=omega) only[A4,A9,D0])
   exact C2 (i+1,some b',Hf) ⟨by simp only[];omega,by simp only[];rw[Q3 (ks.map (normF · b)) i (by omega),D0f];exact A'⟩ (by simp only[];omega) (by(try simp only[go_sem,seval])<;>(try simp(disch:=omega) [A4])) (by rw[←c5];exact D1G _)
  ·have L:decide ((i:Int)<ks.length)=false:=C9s (by omega);have c6:i=ks.length:=by omega
   have a4:=A.keep r _ b1 j;rw[C94 (by omega)]at A;have A1:=A.box;rw[U]at a4;have o1:=A59 7 i ob;repeat' (first|with_reducible apply C9p|simp only[go_sem,seval,L,A1,a4,o1]|simp(disch:=first|omega|grind) only[B9])
   exact A8U (ks:=ks.map (normF · b)) (by rw[b9];exact c6) (A.out2 j _) (D1H (A.le2 W b0 g4.2 _) h)
 |or ks=>
  have a6: ∀k∈ks,G8 D5 k=true:=fun k hk=>N8 (f:=.mk 6 0 nilL D1 ks) hf hk;have a9: ∀k∈ks,FmFit k:=fun k hk=>fa.kid hk;have a5:ks.length≤1466015503658:=a5;rw[A7K b (by simp[Fm.op]) (by simp[Fm.op]) (by simp[Fm.op]) (by simp[Fm.op])]at h;simp only[Fm.op,Fm.ks]at h;apply A6A (C:=fun b5 G=>H.Le G∧H b5=none∧r≠b5∧q≠b5∧G q=some (.box (C0 (.mk 6 0 nilL D1 ks)))∧G r=some (.box Z)∧G b5=some (.box [.int .i64 (opO 6 b),.int .i64 0,.nilsl,.int .i64 0,.bool false,.str ⟨#[]⟩,.nilsl]))
  ·intro hJ;by_cases hb:b=true
   rotate_left
   ·have hb:b=false:=by simpa using hb
    repeat' (first|simp only[go_sem,seval,e2,hb]|(intro d;try simp only[A6]at d))
    rename_i b5;have h5:=d;clear d;have T:q≠b5:=fun e=>by rw[←e,e2]at h5;cases h5
    have V:r≠b5:=fun e=>by rw[←e,j]at h5;cases h5
    exact v8 [(1,.bool b),(2,.box q 0),(4,.box r 0),(5,.box b5 0)] _ (by simp only[go_sem,seval,hb]) (D1G _) (hJ b5 _ ⟨g.trans (A0 h5),g.none h5,V,T,by rw[A3 _ T];exact e2,by rw[A3 _ V];exact j,by rw[A2,hb];rfl⟩)
   ·repeat' (first|simp only[go_sem,seval,e2,hb]|simp(disch:=omega) only[A4,A9,D0]|simp(disch:=first|omega|grind) only[B9]|(intro d;try simp only[A6]at d))
    rename_i b5;have h5:=d;clear d;have T:q≠b5:=fun e=>by rw[←e,e2]at h5;cases h5
    have V:r≠b5:=fun e=>by rw[←e,j]at h5;cases h5
    have q2: ∀x,(Bs.set b5 x) q=some (.box (C0 (.mk 6 0 nilL D1 ks))):=fun x=>by rw[A3 _ T];exact e2
    repeat' (first|with_reducible apply C9p|simp only[go_sem,seval,q2,hb]|simp(disch:=omega) only[A4,A9,D0]|simp(disch:=first|omega|grind) only[B9]|(intro d;try simp only[A6]at d)|omega)
    refine v8 [(1,.bool b),(2,.box q 0),(4,.box r 0),(5,.box b5 0)] _ (by simp only[go_sem,seval,hb]) (D1G _) (hJ b5 _ ⟨fun k o hk=>?_,g.none h5,V,T,?_,?_,?_⟩)
    ·have:k≠b5:=fun e=>by rw[e,g.none h5]at hk;cases hk
     rw[A3 _ this];exact g _ _ hk
    ·rw[A3 _ T];exact e2
    ·rw[A3 _ V];exact j
    ·rw[A2,hb];rfl
  rintro b5 Cs ⟨W,b0,b1,c9,b3,b6,e5⟩;clear e2 j z O g;have e2:=b3;have j:=b6;obtain⟨oo,b8⟩: ∃oo,oo=opO 6 b:=⟨_,rfl⟩
  rw[←b8]at e5 h;repeat' simp only[go_sem,seval,e2]
  refine C9 [1,4,5,67,68] (fun(p:Nat×Option Nat×Heap)=>[(69,.int .i64 p.1)]) (fun(p:Nat×Option Nat×Heap)=>p.2.2) (fun(p:Nat×Option Nat×Heap)=>p.1≤ks.length∧AH 7 Cs b5 (fun x=>[.int .i64 oo,.int .i64 0,.nilsl,.int .i64 0,.bool false,.str ⟨#[]⟩,x]) (Rw C0 ((ks.map (normF · b)).take p.1)) p.1 p.2.1 p.2.2) (fun(p:Nat×Option Nat×Heap)=>ks.length-p.1) ((0,none,Cs)) (⟨D0A _,A16 e5⟩) (by(try simp only[go_sem,seval])<;>(try simp(disch:=omega) [A4])) (by first|exact D1G _|exact A0 (by assumption)|exact B2 (by assumption)|simp only[Heap.Le,Heap.set,Heap.del]at* <;>grind) ?_;rintro Ec rfl ⟨i,ob,Hp⟩ ⟨hi,A⟩;simp only at hi A;have b9:(ks.map (normF · b)).length=ks.length:=by simp
  by_cases J:i<ks.length
  ·have L:decide ((i:Int)<ks.length)=true:=C9r (by omega);have c0:(i:Int)<ks.length:=by omega
   have hm:=C93 J;have hsz:SizeOf.sizeOf ks[i]<SizeOf.sizeOf (Fm.mk 6 0 nilL D1 ks):=A0N (f:=.mk 6 0 nilL D1 ks) hm;repeat' (first|with_reducible apply C9p|simp only[go_sem,seval,L,c0,A9 _ _ J,C1 _ _ J]|(intro d;try simp only[A6]at d)|omega)
   rename_i I;have h7:=d;clear d;obtain⟨d1,d7,dO,dN⟩:=A.at7 h7 (.box (C0 ks[i]));refine F5 (fun i'=>.agg (C0 (normF ks[i] b))) [b5,I] ?_;have m1:b5∈[b5,I]:=by simp
   have m7:I∈[b5,I]:=by simp
   repeat' (first|simp only[go_sem,seval,d1,d7,m1,m7]|(intro d;try simp only[A6]at d)|with_reducible refine R0 (fun H' Q hro hq=>ih ks[i] (by omega) (a6 _ hm) (a9 _ hm) b H' hq) ?_)
   rename_i x;have hx:=d;clear d;obtain⟨X,c1⟩:=hx;have u:(Hp.set I (.box (C0 ks[i]))) x=none:=by rw[A3 _ X];exact c1
   obtain⟨M,Y⟩:=A5A dO u (.vec 7 [C0 (normF ks[i] b)]);have c2:x∉[b5,I]:=by
    simp only[D0H,D0I,or_false,not_or];exact⟨fun e=>(by rw[e,d1]at u;cases u),X⟩
   have c3: ∀c,ob=some c→c∉[b5,I]:=fun c e=>by
    simp only[D0H,D0I,or_false,not_or];exact⟨(A.fresh c e).2,dN c e⟩
   refine B0D 28 96 (n:=i) (m:=1) (bx:=x) (ob:=ob) (es:=Rw C0 ((ks.map (normF · b)).take i)) (xs:=[C0 (normF ks[i] b)]) (by simp only[go_sem,seval]) (by decide) (by simp only[go_sem,seval]) (by simp only[go_sem,seval]) (by simp only[go_sem,seval]) (by simp only[go_sem,seval]) (A2 _ _) rfl (by simp) M (Z0 _ _ (by omega)).symm c2 Y c3 (by simp only[C9u,C9w];omega) (by simp only[C9u,C9w];omega) fun b' a0=>?_;rw[E9 u]at a0⊢;obtain⟨c8,c4,A'⟩:=A.step h7 _ a0 (C0 (normF ks[i] b));revert A';generalize c5:((K7 (Hp.set I (.box (C0 ks[i]))) ob).set b' (.vec 7 (Rw C0 ((ks.map (normF · b)).take i)++[C0 (normF ks[i] b)]))).set b5 (.box [.int .i64 oo,.int .i64 0,.nilsl,.int .i64 0,.bool false,.str ⟨#[]⟩,.vec b' 7 0 (i+1)])=Hf;intro A';repeat' (first|simp only[go_sem,seval,c4,m1]|simp(disch:=omega) only[A4,A9,D0])
   exact C2 (i+1,some b',Hf) ⟨by simp only[];omega,by simp only[];rw[Q3 (ks.map (normF · b)) i (by omega),D0f];exact A'⟩ (by simp only[];omega) (by(try simp only[go_sem,seval])<;>(try simp(disch:=omega) [A4])) (by rw[←c5];exact D1G _)
  ·have L:decide ((i:Int)<ks.length)=false:=C9s (by omega);have c6:i=ks.length:=by omega
   have a4:=A.keep r _ b1 j;rw[C94 (by omega)]at A;have A1:=A.box;rw[U]at a4;have o1:=A59 7 i ob;repeat' (first|with_reducible apply C9p|simp only[go_sem,seval,L,A1,a4,o1]|simp(disch:=first|omega|grind) only[B9])
   exact A8U (ks:=ks.map (normF · b)) (by rw[b9];exact c6) (A.out2 j _) (D1H (A.le2 W b0 g4.2 _) h)
theorem A6I{Q}(f:Fm)(d:G8 D5 f=true)(e:FmFit f)(b:Bool)(H:Heap)(h:Q (.agg (C0 (normF f b))) H):D7 50 [.agg (C0 f),.bool b] H Q:=B7A _ f (C99 _) d e b H h
theorem A6J(n:Int):NilR (.tuple [.agg [.int .i64 0,.int .i64 0,.nilsl,.int .i64 0,.bool false,.str ⟨#[]⟩,.nilsl],.int .i64 n]) (.tuple [.agg (C0 T1),.int .i64 n]):=C2m (A4F 0 0 0 false D1)
theorem C07{Q}(f:Fm)(z:FmFit f)(U:VOk f)(H:Heap)(h:Q (.tuple [.agg (C0 (notF f).1),.int .i64 (notF f).2]) H):D7 16 [.agg (C0 f)] H Q:=by
 refine A8 [] A5 Tryz.func16 rfl ?_;simp only[go_sem,seval,Tryz.results16];intro q V i u;simp only[A6]at u;have A:q≠i:=fun e=>u.1 e.symm;have e1:((H.set q (.box (C0 f))).set i (.box [.int .i64 0,.int .i64 0,.nilsl,.int .i64 0,.bool false,.str ⟨#[]⟩,.nilsl])) q=some (.box (C0 f)):=by rw[A3 _ A,A2]
 have e2:((H.set q (.box (C0 f))).set i (.box [.int .i64 0,.int .i64 0,.nilsl,.int .i64 0,.bool false,.str ⟨#[]⟩,.nilsl])) i=some (.box [.int .i64 0,.int .i64 0,.nilsl,.int .i64 0,.bool false,.str ⟨#[]⟩,.nilsl]):=A2 _ _;have m:H.Le ((H.set q (.box (C0 f))).set i (.box [.int .i64 0,.int .i64 0,.nilsl,.int .i64 0,.bool false,.str ⟨#[]⟩,.nilsl])):=(A0 V).trans (A0 (by simp only[A6];exact u));generalize (H.set q (.box (C0 f))).set i (.box [.int .i64 0,.int .i64 0,.nilsl,.int .i64 0,.bool false,.str ⟨#[]⟩,.nilsl])=Bs at e1 e2 m⊢;have C: ∀x,H.Le (Bs.set i x):=fun x=>G4 m u.2;have y:=fun(Q:D→Heap→Prop) (H:Heap)=>Q5 (Q:=Q) f z U H;unfold notF at h;cases hv:E5 f with
 |false=>
  rw[hv]at h y;simp only[C95,if_false]at h;repeat' (first|simp only[go_sem,seval,e1,e2]|with_reducible refine y _ _ ?_)
  exact E3 (A6J 2) (D1H (C _) h)
 |true=>
  rw[hv]at h y;simp only[if_true]at h;have j:=L5 hv;have W:=A6H hv;obtain⟨G,X⟩:=A55 f true j z;have nv:VOk (normF f true):=.inl (by omega);have d:=fun(Q:D→Heap→Prop) (H:Heap)=>Q5 (Q:=Q) (normF f true) G nv H;have M:=fun(Q:D→Heap→Prop) (H:Heap)=>A6I (Q:=Q) f j z true H;have O:=fun(Q:D→Heap→Prop) (H:Heap)=>B3D (Q:=Q) (normF f true) G H;generalize normF f true=g at h d M O G X nv;repeat' (first|simp only[go_sem,seval,e1]|(intro o;try simp only[A6]at o)|with_reducible refine y _ _ ?_|with_reducible refine M _ _ ?_|with_reducible refine O _ _ ?_)
  rename_i r;have I:=o;clear o;have Y:i≠r:=fun e=>by rw[←e,e2]at I;cases I
  have J:(Bs.set r (.box (C0 g))) r=some (.box (C0 g)):=A2 _ _;have L:(Bs.set r (.box (C0 g))) i=some (.box [.int .i64 0,.int .i64 0,.nilsl,.int .i64 0,.bool false,.str ⟨#[]⟩,.nilsl]):=by rw[A3 _ Y];exact e2
  have p: ∀x,H.Le ((Bs.set r (.box (C0 g))).set i x):=fun x=>G4 (m.trans (A0 I)) u.2;generalize Bs.set r (.box (C0 g))=Cs at J L p⊢;cases T:E5 g with
  |false=>
   rw[T]at h d;simp only[C95,if_false]at h;repeat' (first|simp only[go_sem,seval,J,L]|with_reducible refine d _ _ ?_)
   exact E3 (A6J 3) (D1H (p _) h)
  |true=>
   rw[T]at h d;simp only[if_true]at h;repeat' (first|simp only[go_sem,seval,J,L]|with_reducible refine d _ _ ?_)
   exact D1H (p _) h
end Go.Proofs.YtibphjonmikciaaGreatDoor
namespace Go.Fo
open Go Go.Av Go.Lexs Go.Lin
theorem B4S(d:Fm→Option Bool): ∀(ks:List Fm) (b:Bool),B4Q d ks=some b→(∀k∈ks,d k=some ((d k).getD false))∧b=ks.any fun k=>(d k).getD false:=by
 intro ks
 induction ks with
 |nil=>intro b h;rw[B4Q]at h;injection h with h;exact⟨by simp,h.symm⟩
 |cons k l e=>
  intro b h;rw[B4Q]at h;cases hk:d k with
  |none=>rw[hk]at h;cases h
  |some x=>
   cases hl:B4Q d l with
   |none=>rw[hk,hl]at h;cases h
   |some y=>
    rw[hk,hl]at h;injection h with h
    obtain⟨g,i⟩:=e y hl;refine⟨fun q hq=>?_,?_⟩
    ·rcases D0H.1 hq with rfl|hq
     ·rw[hk];rfl
     ·exact g q hq
    ·rw[D0u,hk,←i,←h];rfl
theorem A5G{Q:D→Heap→Prop}{H:Heap}{x sz n:Nat}{es:List (List D)}(hx:H x=none)(hn:n=es.length)(h:Q (.sl sz es) H):Fin Q (.vec x sz 0 n) (H.set x (.vec sz es)):=
 Fin.out (ob:=some x) hn (A2 _ _) (by show Fin _ _ ((Heap.set H x _).del x);rw[E9 hx];exact D1K h)
theorem C6P(ks:List Fm): ∀(j:Nat) (d d':D),[D.int .i64 6,.int .i64 0,.nilsl,.int .i64 0,.bool false,.str ⟨#[]⟩,.sl 7 (Rw C0 ks)][j]? =some d→(C0 (.mk 6 0 nilL D1 ks))[j]? =some d'→NilR d d':=fun j d d' h1 e=>by
 rw[d9]at e
 match j with
 |0=>cases h1;cases e;exact .same _
 |1=>cases h1;cases e;exact .same _
 |2=>cases h1;cases e;exact .nil 2
 |3=>cases h1;cases e;exact .same _
 |4=>cases h1;cases e;exact .same _
 |5=>cases h1;cases e;exact .same _
 |6=>cases h1;cases e;exact .same _
 |j+7=>cases h1
theorem B9b(f g:Fm)(W:List D)(h: ∀(j:Nat) (d d':D),W[j]? =some d→(C0 g)[j]? =some d'→NilR d d')(hl:W.length=7:=by rfl):NilR (.sl 7 (Rw C0 [f]++[W])) (.sl 7 (Rw C0 ([f]++[g]))):=by
 refine .sl 7 _ _ rfl (fun i e e' h1 m=>?_) (fun i e e' j d d' h1 m p o=>?_)
 ·match i with
  |0=>cases h1;cases m;rfl
  |1=>cases h1;cases m;rw[hl,B83]
  |i+2=>cases h1
 ·match i with
  |0=>cases h1;cases m;rw[p]at o;cases o;exact .same _
  |1=>cases h1;cases m;exact h j d d' p o
  |i+2=>cases h1
def mG(bs:BS):Option Nat→D
 |none=>.fm (bsC bs)
 |some m=>.map m
def mAt(H:Heap)(bs:BS):Option Nat→Prop
 |none=>True
 |some m=>H m=some (.map (bsC bs))
theorem C6Q(bs:BS)(d:Option Nat):(∃k,mG bs d= .fm k)∨∃b,mG bs d= .map b:=by cases d with
 |none=>exact .inl ⟨_,rfl⟩
 |some m=>exact .inr ⟨_,rfl⟩
end Go.Fo
namespace Go.Proofs.YtibphjonmikciaaGreatDoor
open Go Go.Av Go.Lexs Go.Lin Go.Fo
attribute [local irreducible] ACalls W4
theorem C08(cs:List LinV)(x:Bool)(hx:B1v cs=some x): ∀(Q:D→Heap→Prop) (H:Heap),Q (.bool x) H→D7 155 [.sl 3 (Rw E4 cs)] H Q:=fun Q H h=>by
 unfold B1v at hx;split at hx
 ·rename_i hv;exact C23 cs hv.2 (D0Q.1 hv.1) x hx H h
 ·cases hx
def A6K(n:Nat):Prop:=∀(Q:D→Heap→Prop) (cs:List LinV) (bs:BS) (l:List Fm) (b:Bool),V5 n cs bs l=some b→∀H:Heap,Q (.bool b) H→D7 124 [.agg [.sl 3 (Rw E4 cs),.fm (bsC bs)],.sl 7 (Rw C0 l)] H Q
theorem B4T(n:Nat)(A:A6K n){Q}(cs:List LinV)(bs:BS)(k:Fm)(l:List Fm)(b:Bool)(hb:V5 n cs bs (k::l)=some b)(hl:l.length≤1000)(j b5:Nat)(H:Heap)(r:H j=some (.box [.sl 3 (Rw E4 cs),.fm (bsC bs)]))(h5:H b5=some (.box [.sl 7 (Rw C0 l)]))(h:Q (.bool b) H):
  D7 195 [.agg (C0 k),.box j 0,.box b5 0] H Q:=by
 refine A2w (ops:=chOps) A5 Tryz.func195 rfl (by kernel_rfl) (C9q (by kernel_rfl)) 7 4 rfl (by kernel_rfl) (by kernel_rfl) (by kernel_rfl) (by kernel_rfl) (by kernel_rfl) ?_;simp only[go_sem,seval];intro d m;have p:j≠d:=fun e=>by rw[←e,r]at m;cases m
 have q:b5≠d:=fun e=>by rw[←e,h5]at m;cases m
 have u:(H.set d (.box (C0 k))) j=some (.box [.sl 3 (Rw E4 cs),.fm (bsC bs)]):=by rw[A3 _ p];exact r
 have y:(H.set d (.box (C0 k))) b5=some (.box [.sl 7 (Rw C0 l)]):=by rw[A3 _ q];exact h5
 have z:(H.set d (.box (C0 k))) d=some (.box (C0 k)):=A2 _ _;have o:H.Le (H.set d (.box (C0 k))):=A0 m;generalize H.set d (.box (C0 k))=Bs at u y z o⊢;refine⟨fun i=>if i=0 then .agg [.sl 3 (Rw E4 cs),.fm (bsC bs)]else if i=1 then .agg (C0 k)else if i=2 then .sl 7 (Rw C0 [k])else if i=3 then .sl 7 (Rw C0 l)else if i=4 then .sl 1 [[.sl 7 (Rw C0 [k])],[.sl 7 (Rw C0 l)]]else if i=5 then .sl 7 (Rw C0 (k::l))else .bool b,C2u ?_ ?_ ?_ ?_ ?_ ?_ ?_ ?_,?_⟩
 ·intro ev g e1;simp only[go_sem,seval,show ev (.tmp 1)= .box j 0 from e1,u];exact D1K ⟨rfl,rfl⟩
 ·intro ev g e1;simp only[go_sem,seval,show ev (.tmp 3)= .box d 0 from e1,z];exact D1K ⟨rfl,rfl⟩
 ·intro ev g e1;simp only[go_sem,seval,show ev (.tmp 6)= .agg (C0 k)from e1];exact fun x hx=>A5G hx rfl ⟨rfl,rfl⟩
 ·intro ev g e1;simp only[go_sem,seval,show ev (.tmp 2)= .box b5 0 from e1,y];exact D1K ⟨rfl,rfl⟩
 ·intro ev g e1 e2;simp only[go_sem,seval,show ev (.tmp 7)= .sl 7 (Rw C0 [k])from e1,show ev (.tmp 8)= .sl 7 (Rw C0 l)from e2];exact fun x hx=>A5G hx rfl ⟨rfl,rfl⟩
 ·intro ev g e1;simp only[go_sem,seval,show ev (.tmp 9)= .sl 1 [[.sl 7 (Rw C0 [k])],[.sl 7 (Rw C0 l)]]from e1,g.func];refine A7H [k] l (by simp only[C9u,C9w];omega) _ ?_;exact D1K ⟨rfl,rfl⟩
 ·intro ev g e1 e2;simp only[go_sem,seval,show ev (.tmp 5)= .agg [.sl 3 (Rw E4 cs),.fm (bsC bs)]from e1,show ev (.tmp 10)= .sl 7 (Rw C0 (k::l))from e2,g.func];refine A _ cs bs (k::l) b hb _ ?_;exact D1K ⟨rfl,rfl⟩
 ·intro ev g e1;simp only[go_sem,seval,show ev (.tmp 11)= .bool b from e1];exact D1K ⟨rfl,rfl⟩
 ·exact D1H o h
def B9c(n:Nat):Prop:=∀(Q:D→Heap→Prop) (cs:List LinV) (bs:BS) (ks l:List Fm) (b:Bool),A5F (V5 n) cs bs ks l=some b→∀H:Heap,Q (.bool b) H→D7 154 [.agg [.sl 3 (Rw E4 cs),.fm (bsC bs)],.sl 7 (Rw C0 ks),.sl 7 (Rw C0 l)] H Q
theorem B7B(n:Nat)(hS:A6K n):B9c n:=by
 intro Q cs bs ks l b hb H h;unfold A5F at hb;split at hb
 rotate_left
 ·cases hb
 rename_i hlen;obtain⟨C,b4⟩:=hlen;refine A8 [(3,.par)] A5 Tryz.func154 rfl ?_;simp only[go_sem,seval,Tryz.results154];intro p g3 b5 O;simp only[A6]at O;have T:p≠b5:=fun e=>O.1 e.symm;have u:((H.set p (.box [.sl 3 (Rw E4 cs),.fm (bsC bs)])).set b5 (.box [.sl 7 (Rw C0 l)])) p=some (.box [.sl 3 (Rw E4 cs),.fm (bsC bs)]):=by rw[A3 _ T,A2]
 have y:((H.set p (.box [.sl 3 (Rw E4 cs),.fm (bsC bs)])).set b5 (.box [.sl 7 (Rw C0 l)])) b5=some (.box [.sl 7 (Rw C0 l)]):=A2 _ _;have q:H.Le ((H.set p (.box [.sl 3 (Rw E4 cs),.fm (bsC bs)])).set b5 (.box [.sl 7 (Rw C0 l)])):=(A0 g3).trans (A0 (by simp only[A6];exact O));generalize (H.set p (.box [.sl 3 (Rw E4 cs),.fm (bsC bs)])).set b5 (.box [.sl 7 (Rw C0 l)])=Bs at u y q⊢;by_cases hr:l≠[]∧B0Z (l.headD T1)=0
 ·rw[if_pos hr]at hb;obtain⟨U,z⟩:=hr;obtain⟨f,rfl⟩: ∃f,l= [f]:=by
   match l,U,C with
   | [f],_,_=>exact⟨f,rfl⟩
  have hro:f.op≠6:=fun e=>by rw[show ([f]:List Fm).headD T1=f from rfl]at z;unfold B0Z at z;rw[if_pos e]at z;cases z
  have A:=fun(Q:D→Heap→Prop) (H:Heap)=>B1c (Q:=Q) f H;simp only[if_neg hro]at A;have G:(Rw C0 [f]).getD 0 []=C0 f:=rfl;repeat' (first|with_reducible apply C9p|simp only[go_sem,seval,u,y,G]|(intro j;try simp only[A6]at j)|with_reducible refine A3Z [f] (by simp) _ _ ?_|with_reducible refine A _ _ ?_|omega)
  all_goals first|decide|omega|skip
  have m3:p∈[p,b5]:=by simp
  have m5:b5∈[p,b5]:=by simp
  refine B2O (fun i=>if i=2 then .mk' (fun c=>.vec c 7 0 1) (.vec 7 (Rw C0 [f]))else .c (.bool b)) [p,b5] ?_;have Y:(Av.Obj.vec 7 (Rw C0 [f])).rw=true:=rfl;have cl: ∀(H':Heap) (Q:D→Heap→Prop),(∀c,H' c=none→Q (.vec c 7 0 1) (H'.set c (.vec 7 (Rw C0 [f]))))→D7 194 [.sl 7 (Rw C0 [f])] H' Q:=fun H' Q hq=>B6J [f] (by simp) (by simp) H' hq;repeat' simp only[go_sem,seval,u,y,m3,m5]
  refine pcm (f:=fun c=>.vec c 7 0 1) Y (fun H' Q hro hq=>cl H' Q hq) fun c hc=>?_;have a0:p≠c:=fun e=>by rw[←e,u]at hc;cases hc
  have a4:b5≠c:=fun e=>by rw[←e,y]at hc;cases hc
  repeat' (first|simp only[go_sem,seval,u,y,m3,m5]|(intro j;try simp only[A6]at j))
  rename_i x;have hx:=j;clear j;obtain⟨W,hW⟩: ∃W:List D,W= [.int .i64 6,.int .i64 0,.nilsl,.int .i64 0,.bool false,.str ⟨#[]⟩,.sl 7 (Rw C0 ks)]:=⟨_,rfl⟩
  rw[←hW];have I:c≠x:=fun e=>hx.1 e.symm;have a5:p≠x:=fun e=>by rw[←e]at hx;have:=hx.2;rw[u]at this;cases this
  have a6:b5≠x:=fun e=>by rw[←e]at hx;have:=hx.2;rw[y]at this;cases this
  refine B0D 28 96 (n:=1) (m:=1) (bx:=x) (ob:=some c) (es:=Rw C0 [f]) (xs:=[W]) (by simp only[go_sem,seval]) (by decide) (by simp only[go_sem,seval]) (by simp only[go_sem,seval]) (by simp only[go_sem,seval]) (by simp only[go_sem,seval]) (A2 _ _) rfl (by simp) (?_:(Heap.set _ x _) c=_) rfl ?_ ?_ ?_ (by simp) (by simp) fun b' r=>?_
  ·rw[A3 _ I];exact A2 _ _
  ·simp only[D0H,D0I,or_false,not_or];exact⟨a5.symm,a6.symm⟩
  ·intro e;injection e with e;exact I e
  ·intro c' e;injection e with e;subst e
   simp only[D0H,D0I,or_false,not_or];exact⟨a0.symm,a4.symm⟩
  have hH: ∀V X:Av.Obj,K7 (((Bs.set c V).set x X).del x) (some c)=Bs:=fun V X=>by rw[E9 (A6.2 hx)];exact E9 hc
  rw[hH]at r⊢;have a9:b'∉[p,b5]:=by
   simp only[D0H,D0I,or_false,not_or];exact⟨fun e=>(by rw[e,u]at r;cases r),fun e=>(by rw[e,y]at r;cases r)⟩
  have b0:(Av.Obj.vec 7 (Rw C0 [f]++[W])).rw=true:=rfl;have e1:(1:Nat)+ [W].length=2:=rfl;repeat' simp only[go_sem,seval,e1]
  refine pc1 (o:=.vec 7 (Rw C0 [f]++[W])) (A2 _ _) b0 a9 (fun H' Q hro b1 hq=>?_) ?_
  ·refine A0Q b1 rfl ?_;refine Z8 (args':=[.agg [.sl 3 (Rw E4 cs),.fm (bsC bs)],.sl 7 (Rw C0 ([f]++[.mk 6 0 nilL D1 ks]))]) rfl (fun i d d' h1 h2=>?_) (hS _ cs bs _ b hb _ hq)
   match i with
   |0=>cases h1;cases h2;exact .same _
   |1=>cases h1;cases h2;rw[hW];exact B9b f _ _ (C6P ks)
   |i+2=>cases h1
  ·rw[E9 r];repeat' simp only[go_sem,seval]
   exact D1H q h
 ·rw[if_neg hr]at hb;have J:l= []∨∃f,l= [f]∧f.op=6:=by
   match l,C,hr with
   | [],_,_=>exact .inl rfl
   | [f],_,hr=>
    refine .inr ⟨f,rfl,?_⟩;by_cases e:f.op=6
    ·exact e
    ·exact absurd ⟨by simp,by show B0Z f=0;unfold B0Z;rw[if_neg e]⟩ hr
  have b2:l.length≤1000:=by omega
  obtain⟨x,hx⟩: ∃x,B1v cs=some x:=by
   cases e:B1v cs with
   |none=>rw[e]at hb;cases hb
   |some x=>exact⟨x,rfl⟩
  have M:=C08 cs x hx;rw[hx]at hb;cases x with
  |false=>
   injection hb with hb
   subst hb;rcases J with rfl|⟨f,rfl,ho⟩
   ·have L:=fun(g:D) (Q:D→Heap→Prop) (H:Heap)=>A3Z (Q:=Q) [] (by simp) g H;simp only[A0X]at L;repeat' (first|with_reducible apply C9p|simp only[go_sem,seval,u,y,A0X]|(intro j;try simp only[A6]at j)|with_reducible refine L _ _ _ ?_|with_reducible refine M _ _ ?_|omega)
    all_goals first|exact D1H q h|skip
   ·have A:=fun(Q:D→Heap→Prop) (H:Heap)=>B1c (Q:=Q) f H;simp only[if_pos ho]at A;have G:(Rw C0 [f]).getD 0 []=C0 f:=rfl;repeat' (first|with_reducible apply C9p|simp only[go_sem,seval,u,y,G]|(intro j;try simp only[A6]at j)|with_reducible refine A3Z [f] (by simp) _ _ ?_|with_reducible refine A _ _ ?_|with_reducible refine M _ _ ?_|omega)
    all_goals first|exact D1H q h|decide|omega|skip
  |true=>
   obtain⟨a1,a2⟩:=B4S _ _ _ hb;have cc:=fun(Q:D→Heap→Prop)=>A8a (Q:=Q) (fun k=>(V5 n cs bs (k::l)).getD false) ks (by omega) 195 [] [.box p 0,.box b5 0] Bs (fun k hk _ Q hq=>B4T n hS cs bs ks[k] l _ (a1 _ (C93 hk)) b2 p b5 Bs u y hq);rw[←a2]at cc;rcases J with rfl|⟨f,rfl,ho⟩
   ·have L:=fun(g:D) (Q:D→Heap→Prop) (H:Heap)=>A3Z (Q:=Q) [] (by simp) g H;simp only[A0X]at L;repeat' (first|with_reducible apply C9p|simp only[go_sem,seval,u,y,A0X]|(intro j;try simp only[A6]at j)|with_reducible refine L _ _ _ ?_|with_reducible refine M _ _ ?_|with_reducible refine cc _ ?_|omega)
    all_goals first|exact D1H q h|skip
   ·have A:=fun(Q:D→Heap→Prop) (H:Heap)=>B1c (Q:=Q) f H;simp only[if_pos ho]at A;have G:(Rw C0 [f]).getD 0 []=C0 f:=rfl;repeat' (first|with_reducible apply C9p|simp only[go_sem,seval,u,y,G]|(intro j;try simp only[A6]at j)|with_reducible refine A3Z [f] (by simp) _ _ ?_|with_reducible refine A _ _ ?_|with_reducible refine M _ _ ?_|with_reducible refine cc _ ?_|omega)
    all_goals first|exact D1H q h|decide|omega|skip
theorem B7C(f:Fm)(l:List Fm):((Rw C0 (f::l)).take (l.length+1)).tail=Rw C0 l:=by rw[C94 (by simp[Rw])];rfl
theorem B7D(f:Fm)(l:List Fm):((Rw C0 (f::l)).take (l.length+1)).drop 1=Rw C0 l:=by rw[C94 (by simp[Rw])];rfl
theorem B9d(bs:BS):mG bs none= .fm (bsC bs):=rfl
theorem B9e(bs:BS)(m:Nat):mG bs (some m)= .map m:=rfl
set_option maxHeartbeats 4000000 in
theorem B9f(n:Nat)(ih: ∀m,m<n→A6K m):A6K n:=by
 intro Q O T l0 b hb H h;refine A8 [(15,.wk)] A5 Tryz.func124 rfl ?_;simp only[go_sem,seval,Tryz.results124];intro y g2;have e2:(H.set y (.box [.sl 3 (Rw E4 O),.fm (bsC T)])) y=some (.box [.sl 3 (Rw E4 O),.fm (bsC T)]):=A2 _ _;have b3:H.Le (H.set y (.box [.sl 3 (Rw E4 O),.fm (bsC T)])):=A0 g2;generalize H.set y (.box [.sl 3 (Rw E4 O),.fm (bsC T)])=Bs at e2 b3⊢;repeat' (first|with_reducible apply C9p|simp only[go_sem,seval]|simp(disch:=omega) only[D0]|simp(disch:=first|omega|grind) only[B9,F0]|(intro g;try simp only[A6]at g)|omega)
 refine C9 [2] (fun(p:Nat×List LinV×BS×List Fm×Option Nat×Heap)=>[(1,.sl 7 (Rw C0 p.2.2.2.1))]) (fun(p:Nat×List LinV×BS×List Fm×Option Nat×Heap)=>p.2.2.2.2.2) (fun(p:Nat×List LinV×BS×List Fm×Option Nat×Heap)=>V5 p.1 p.2.1 p.2.2.1 p.2.2.2.1=some b∧p.1≤n∧p.2.2.2.2.2 y=some (.box [.sl 3 (Rw E4 p.2.1),mG p.2.2.1 p.2.2.2.2.1])∧mAt p.2.2.2.2.2 p.2.2.1 p.2.2.2.2.1∧H.Le p.2.2.2.2.2∧(∀m,p.2.2.2.2.1=some m→H m=none)) (fun(p:Nat×List LinV×BS×List Fm×Option Nat×Heap)=>p.1) ((n,O,T,l0,none,Bs)) (⟨hb,C99 _,e2,trivial,b3,fun _ e=>(by cases e)⟩) (by simp only[go_sem,seval]) (by first|exact D1G _|exact A0 (by assumption)|exact B2 (by assumption)|simp only[Heap.Le,Heap.set,Heap.del]at* <;>grind) ?_;rintro Ec rfl ⟨k,cs,bs,l,J,Hp⟩ ⟨hs,hk,u,z,hp,U⟩;simp only at hs hk u z hp U;have a5:(mG bs J).one=true:=by cases J<;>rfl
 have a6:(mG bs J).cells= [mG bs J]:=by cases J<;>rfl
 have b4:(match mG bs J with|D.undef=>false|D.agg cs=>false|D.tuple cs=>false|x=>true)=true:=by cases J<;>rfl
 cases k with
 |zero=>cases hs
 |succ k=>
  cases l with
  |nil=>
   have hs:B1v cs=some b:=hs;have tc:=C08 cs b hs;have r0:(Rw C0 [])= []:=rfl;repeat' (first|with_reducible apply C9p|simp only[go_sem,seval,u,r0]|(intro g;try simp only[A6]at g)|with_reducible refine tc _ _ ?_|omega)
   all_goals first|exact D1H hp h|skip
  |cons f l=>
   have hs:(if 1000<cs.length∨1000<l.length∨1000<f.ks.length then none else if f.op=1 then(if f.n=0 then some false else V5 k cs bs l)else if f.op=2 then V5 k (cs++[f.l]) bs l else if f.op=3 then(if A8Z bs f.s=some false then some false else V5 k cs (A1T bs f.s true) l)else if f.op=4 then(if f.ks= []then none else if A8Z bs (f.ks.headD T1).s=some true then some false else V5 k cs (A1T bs (f.ks.headD T1).s false) l)else if f.op=5 then V5 k cs bs (f.ks++l)else if f.op=6 then A5F (V5 k) cs bs f.ks l else none)=some b:=hs;split at hs
   ·cases hs
   rename_i d4;have L:(0:Int)<(f::l).length:=by simp only[C9u];omega
   have hlen:(f::l).length=l.length+1:=rfl;have r0:(Rw C0 (f::l)).getD 0 []=C0 f:=rfl;have d1:=B7C f l;have d2:=B7D f l;by_cases o1:f.op=1
   ·rw[if_pos o1]at hs;by_cases n0:f.n=0
    ·rw[if_pos n0]at hs;injection hs with hs
     subst hs;repeat' (first|with_reducible apply C9p|simp only[go_sem,seval,u,r0,d1,d2,o1,n0,L]|(intro g;try simp only[A6]at g)|omega)
     all_goals first|exact D1H (hp.trans (A0 (by assumption))) h|skip
    ·rw[if_neg n0]at hs;repeat' (first|with_reducible apply C9p|simp only[go_sem,seval,u,r0,d1,d2,o1,n0,L]|(intro g;try simp only[A6]at g)|omega)
     exact C2 (k,cs,bs,l,J,Hp) ⟨hs,by simp only[];omega,u,z,hp,U⟩ (by simp only[];omega) (by simp only[go_sem,seval]) (A0 (by assumption))
   ·rw[if_neg o1]at hs;by_cases o2:f.op=2
    ·rw[if_pos o2]at hs;have c3: ¬(2:Int)=1:=by decide
     repeat' (first|with_reducible apply C9p|simp only[go_sem,seval,u,r0,d1,d2,c3,o2,L,a5,a6]|simp(disch:=first|omega|grind) only[B9,F0]|(intro g;try simp only[A6]at g)|omega)
     rename_i b5 h5 x;have hx:=g;clear g;refine A8v (es:=[E4 f.l]) (by first|exact hx|exact A6.2 hx) rfl ?_;refine B6K cs [f.l] (mG bs J) (C6Q _ _) (by simp only[C9u,C9w];omega) _ ?_;repeat' (first|with_reducible apply C9p|simp only[go_sem,seval,u,d1,a5,a6,b4]|simp(disch:=first|omega|grind) only[B9,F0])
     refine C2 (k,cs++[f.l],bs,l,J,Hp.set y (.box [.sl 3 (Rw E4 (cs++[f.l])),mG bs J])) ⟨hs,by simp only[];omega,A2 _ _,?_,G4 hp g2,U⟩ (by simp only[];omega) (by simp only[go_sem,seval]) (by simp only[E6,D2,D3]at* <;>grind);cases J with
     |none=>trivial
     |some m=>
      have z:Hp m=some (.map (bsC bs)):=z;have:m≠y:=fun e=>by rw[e,u]at z;cases z
      show (Heap.set _ y _) m=_;rw[A3 _ this];exact z
    ·rw[if_neg o2]at hs;by_cases a0:f.op=3∨f.op=4
     ·have c4: ∃M I,(if A8Z bs M=some (!I)then some false else V5 k cs (A1T bs M I) l)=some b∧((f.op=3∧M=f.s∧I=true)∨(f.op=4∧∃k0 r,f.ks=k0::r∧M=k0.s∧I=false)):=by
       by_cases o3:f.op=3
       ·rw[if_pos o3]at hs;exact⟨f.s,true,hs,.inl ⟨o3,rfl,rfl⟩⟩
       ·rw[if_neg o3,if_pos (by omega)]at hs;split at hs
        ·cases hs
        ·rename_i c5;cases b6:f.ks with
         |nil=>exact absurd b6 c5
         |cons k0 r=>
          rw[b6]at hs;exact⟨k0.s,false,hs,.inr ⟨by omega,k0,r,rfl,rfl,rfl⟩⟩
      obtain⟨M,I,hs,hw⟩:=c4;apply A2G (C:=True)
      ·intro hJ;rcases hw with⟨o3,hn,a9⟩|⟨o4,k0,r,c6,hn,a9⟩
       ·have b0: ¬(3:Int)=1:=by decide
        have b1: ¬(3:Int)=2:=by decide
        have a0: ¬(3:Int)=4:=by decide
        repeat' (first|with_reducible apply C9p|simp only[go_sem,seval,u,r0,d1,d2,b0,b1,a0,o3,L]|(intro g;try simp only[A6]at g)|omega)
        exact v8 [(1,.sl 7 (Rw C0 l)),(2,.box y 0),(6,.str M),(7,.bool I)] Hp (by simp only[go_sem,seval,hn,a9]) (A0 (by assumption)) (hJ trivial)
       ·have b0: ¬(4:Int)=1:=by decide
        have b1: ¬(4:Int)=2:=by decide
        have a0: ¬(4:Int)=3:=by decide
        have rk:(Rw C0 (k0::r)).getD 0 []=C0 k0:=rfl;repeat' (first|with_reducible apply C9p|simp only[go_sem,seval,u,r0,d1,d2,b0,b1,a0,o4,L,c6,rk]|(intro g;try simp only[A6]at g)|omega)
        all_goals first|decide|omega|skip
        exact v8 [(1,.sl 7 (Rw C0 l)),(2,.box y 0),(6,.str M),(7,.bool I)] Hp (by simp only[go_sem,seval,hn,a9]) (A0 (by assumption)) (hJ trivial)
      intro _;rcases find_bsC M bs 0 with⟨h1,h2,h3⟩|⟨j,bv,_,h1,h2,h4⟩
      ·rw[h1,if_neg (by simp)]at hs;cases J with
       |none=>
        repeat' simp only[go_sem,seval,u,h2,B9d]
        refine A1P (bsC bs) _ fun bn d=>?_;have V:(Hp.set bn (.map (bsC bs))) y=some (.box [.sl 3 (Rw E4 cs),.fm (bsC bs)]):=by rw[A3 _ (fun e=>by rw[←e,u]at d;cases d)];exact u
        have A:bn≠y:=fun e=>by rw[e,u]at d;cases d
        have W: ∀X:Av.Obj,((Hp.set bn (.map (bsC bs))).set y X) bn=some (.map (bsC bs)):=fun X=>by rw[A3 _ A];exact A2 _ _
        have i:H.Le (Hp.set bn (.map (bsC bs))):=hp.trans (A0 d);have G:H bn=none:=hp.none d;generalize Hp.set bn (.map (bsC bs))=Cs at V W i⊢;repeat' simp only[go_sem,seval,V,W,A3c]
        refine C2 (k,cs,A1T bs M I,l,some bn,(Cs.set y (.box [.sl 3 (Rw E4 cs),.map bn])).set bn (.map (bsC (A1T bs M I)))) ⟨hs,by simp only[];omega,?_,A2 _ _,?_,fun m e=>(by cases e;exact G)⟩ (by simp only[];omega) (by simp only[go_sem,seval]) (D1G _)
        ·show (Heap.set _ bn _) y=_;rw[A3 _ A.symm];exact A2 _ _
        ·exact G4 (G4 i g2) G
       |some m=>
        have z:Hp m=some (.map (bsC bs)):=z;repeat' simp only[go_sem,seval,u,h2,z,B9e]
        refine A2c m (bsC bs) _ z fun bn d=>?_;have V:(Hp.set bn (.map (bsC bs))) y=some (.box [.sl 3 (Rw E4 cs),.map m]):=by rw[A3 _ (fun e=>by rw[←e,u]at d;cases d)];exact u
        have A:bn≠y:=fun e=>by rw[e,u]at d;cases d
        have W: ∀X:Av.Obj,((Hp.set bn (.map (bsC bs))).set y X) bn=some (.map (bsC bs)):=fun X=>by rw[A3 _ A];exact A2 _ _
        have i:H.Le (Hp.set bn (.map (bsC bs))):=hp.trans (A0 d);have G:H bn=none:=hp.none d;generalize Hp.set bn (.map (bsC bs))=Cs at V W i⊢;repeat' simp only[go_sem,seval,V,W,A3c]
        refine C2 (k,cs,A1T bs M I,l,some bn,(Cs.set y (.box [.sl 3 (Rw E4 cs),.map bn])).set bn (.map (bsC (A1T bs M I)))) ⟨hs,by simp only[];omega,?_,A2 _ _,?_,fun m e=>(by cases e;exact G)⟩ (by simp only[];omega) (by simp only[go_sem,seval]) (D1G _)
        ·show (Heap.set _ bn _) y=_;rw[A3 _ A.symm];exact A2 _ _
        ·exact G4 (G4 i g2) G
      ·rw[h1]at hs;by_cases a4:bv= !I
       ·rw[if_pos (by rw[a4])]at hs;injection hs with hs
        subst hs;have Y: ¬bv=I:=by rw[a4];cases I<;>simp
        cases J with
        |none=>
         repeat' simp only[go_sem,seval,u,h2,B9d,Y]
         all_goals first|exact D1H hp h|skip
        |some m=>
         have z:Hp m=some (.map (bsC bs)):=z;repeat' simp only[go_sem,seval,u,h2,z,B9e,Y]
         all_goals first|exact D1H hp h|skip
       ·rw[if_neg (fun e=>a4 (by injection e))]at hs;have Y:bv=I:=by cases bv<;>cases I<;>simp at a4⊢
        cases J with
        |none=>
         repeat' simp only[go_sem,seval,u,h2,B9d,Y]
         refine A1P (bsC bs) _ fun bn d=>?_;have V:(Hp.set bn (.map (bsC bs))) y=some (.box [.sl 3 (Rw E4 cs),.fm (bsC bs)]):=by rw[A3 _ (fun e=>by rw[←e,u]at d;cases d)];exact u
         have A:bn≠y:=fun e=>by rw[e,u]at d;cases d
         have W: ∀X:Av.Obj,((Hp.set bn (.map (bsC bs))).set y X) bn=some (.map (bsC bs)):=fun X=>by rw[A3 _ A];exact A2 _ _
         have i:H.Le (Hp.set bn (.map (bsC bs))):=hp.trans (A0 d);have G:H bn=none:=hp.none d;generalize Hp.set bn (.map (bsC bs))=Cs at V W i⊢;repeat' simp only[go_sem,seval,V,W,A3c]
         refine C2 (k,cs,A1T bs M I,l,some bn,(Cs.set y (.box [.sl 3 (Rw E4 cs),.map bn])).set bn (.map (bsC (A1T bs M I)))) ⟨hs,by simp only[];omega,?_,A2 _ _,?_,fun m e=>(by cases e;exact G)⟩ (by simp only[];omega) (by simp only[go_sem,seval]) (D1G _)
         ·show (Heap.set _ bn _) y=_;rw[A3 _ A.symm];exact A2 _ _
         ·exact G4 (G4 i g2) G
        |some m=>
         have z:Hp m=some (.map (bsC bs)):=z;repeat' simp only[go_sem,seval,u,h2,z,B9e,Y]
         refine A2c m (bsC bs) _ z fun bn d=>?_;have V:(Hp.set bn (.map (bsC bs))) y=some (.box [.sl 3 (Rw E4 cs),.map m]):=by rw[A3 _ (fun e=>by rw[←e,u]at d;cases d)];exact u
         have A:bn≠y:=fun e=>by rw[e,u]at d;cases d
         have W: ∀X:Av.Obj,((Hp.set bn (.map (bsC bs))).set y X) bn=some (.map (bsC bs)):=fun X=>by rw[A3 _ A];exact A2 _ _
         have i:H.Le (Hp.set bn (.map (bsC bs))):=hp.trans (A0 d);have G:H bn=none:=hp.none d;generalize Hp.set bn (.map (bsC bs))=Cs at V W i⊢;repeat' simp only[go_sem,seval,V,W,A3c]
         refine C2 (k,cs,A1T bs M I,l,some bn,(Cs.set y (.box [.sl 3 (Rw E4 cs),.map bn])).set bn (.map (bsC (A1T bs M I)))) ⟨hs,by simp only[];omega,?_,A2 _ _,?_,fun m e=>(by cases e;exact G)⟩ (by simp only[];omega) (by simp only[go_sem,seval]) (D1G _)
         ·show (Heap.set _ bn _) y=_;rw[A3 _ A.symm];exact A2 _ _
         ·exact G4 (G4 i g2) G
     ·rw[if_neg (by omega),if_neg (by omega)]at hs;by_cases o5:f.op=5
      ·rw[if_pos o5]at hs;have c7: ¬(5:Int)=1:=by decide
       have c8: ¬(5:Int)=2:=by decide
       have c9: ¬(5:Int)=3:=by decide
       have d0: ¬(5:Int)=4:=by decide
       repeat' (first|with_reducible apply C9p|simp only[go_sem,seval,u,r0,d1,d2,c7,c8,c9,d0,o5,L]|(intro g;try simp only[A6]at g)|omega)
       rename_i b5 h5 x;have hx:=g;clear g;refine Q6 (es:=[[.sl 7 (Rw C0 f.ks)],[.sl 7 (Rw C0 l)]]) (by first|exact hx|exact A6.2 hx) rfl ?_;refine A7H f.ks l (by omega) _ ?_;repeat' simp only[go_sem,seval]
       exact C2 (k,cs,bs,f.ks++l,J,Hp) ⟨hs,by simp only[];omega,u,z,hp,U⟩ (by simp only[];omega) (by simp only[go_sem,seval]) (A0 h5)
      ·rw[if_neg o5]at hs;by_cases o6:f.op=6
       ·rw[if_pos o6]at hs;have b7: ¬(6:Int)=1:=by decide
        have b8: ¬(6:Int)=2:=by decide
        have b9: ¬(6:Int)=3:=by decide
        have c0: ¬(6:Int)=4:=by decide
        have c1: ¬(6:Int)=5:=by decide
        have cc:=fun(Q:D→Heap→Prop) (H:Heap)=>B7B k (ih k (by omega)) Q cs bs f.ks l b hs H;cases J with
        |none=>
         repeat' (first|with_reducible apply C9p|simp only[go_sem,seval,u,r0,d1,d2,b7,b8,b9,c0,c1,o6,L,B9d]|simp(disch:=first|omega|grind) only[B9,F0]|(intro g;try simp only[A6]at g)|omega)
         refine cc _ _ ?_;repeat' simp only[go_sem,seval]
         exact D1H (hp.trans (A0 (by assumption))) h
        |some m=>
         have z:Hp m=some (.map (bsC bs)):=z;repeat' (first|with_reducible apply C9p|simp only[go_sem,seval,u,r0,d1,d2,b7,b8,b9,c0,c1,o6,L,B9e]|simp(disch:=first|omega|grind) only[B9,F0]|(intro g;try simp only[A6]at g)|omega)
         rename_i b5;have h5:=g;clear g;have d3:m≠b5:=fun e=>by rw[←e,z]at h5;cases h5
         have d5:y≠m:=fun e=>by rw[←e,u]at z;cases z
         refine A6X (by rw[A3 _ d3];exact z) ?_;refine cc _ _ ?_;repeat' simp only[go_sem,seval]
         refine D1H (fun q o hq=>?_) h;have q5:q≠m:=fun e=>by rw[e,U m rfl]at hq;cases hq
         rw[F0 q5];exact hp.trans (A0 h5) _ _ hq
       ·rw[if_neg o6]at hs;cases hs
theorem B9g: ∀n,A6K n:=fun n=>by
 induction n using Nat.strongRecOn with
 |_ n d=>exact B9f n d
theorem C3K(m x:D):NilR (.agg [.nilsl,m]) (.agg [.sl 3 [],m]):=by
 refine .agg _ _ rfl fun i d d' h1 e=>?_
 match i with
 |0=>cases h1;cases e;exact .nil 3
 |1=>cases h1;cases e;exact .same _
 |i+2=>cases h1
theorem A3e{Q}(f:Fm)(p:G8 D5 f=true)(q:FmFit f)(more:List LinV)(hm:more.length≤1000)(b:Bool)(hs:V6 f more=some b)(H:Heap)(h:Q (.bool b) H):D7 73 [.agg (C0 f),.sl 3 (Rw E4 more)] H Q:=by
 refine A2w (ops:=svOps) A5 Tryz.func73 rfl (by kernel_rfl) (C9q (by kernel_rfl)) 8 4 rfl (by kernel_rfl) (by kernel_rfl) (by kernel_rfl) (by kernel_rfl) (by kernel_rfl) ?_;simp only[go_sem,seval];intro g m;have o:(H.set g (.box (C0 f))) g=some (.box (C0 f)):=A2 _ _;have j:H.Le (H.set g (.box (C0 f))):=A0 m;generalize H.set g (.box (C0 f))=Bs at o j⊢;unfold V6 at hs;refine⟨fun i=>if i=0 then .fm []else if i=1 then .agg [.nilsl,.fm []]else if i=2 then .sl 3 (Rw E4 more)else if i=3 then .agg [.sl 3 (Rw E4 more),.fm []]else if i=4 then .agg (C0 f)else if i=5 then .agg (C0 (normF f false))else if i=6 then .sl 7 (Rw C0 [normF f false])else .bool b,C2t ?_ ?_ ?_ ?_ ?_ ?_ ?_ ?_ ?_,?_⟩
 ·intro ev e;simp only[go_sem,seval,];intro x hx;refine A4m (kvs:=[]) (A2 _ _) ?_;rw[E9 hx];refine D1K ?_;exact⟨rfl,rfl⟩
 ·intro ev e e1;simp only[go_sem,seval,show ev (.tmp 5)= .fm []from e1,show (D.fm []).cells= [D.fm []]from rfl];exact D1K ⟨rfl,rfl⟩
 ·intro ev e e1;simp only[go_sem,seval,show ev (.tmp 1)= .sl 3 (Rw E4 more)from e1];exact D1K ⟨rfl,rfl⟩
 ·intro ev e e1 e2;simp only[go_sem,seval,show ev (.tmp 6)= .agg [.nilsl,.fm []]from e1,show ev (.tmp 7)= .sl 3 (Rw E4 more)from e2,e.func];refine Z8 (args':=[.agg [.sl 3 (Rw E4 []),.fm []],.sl 3 (Rw E4 more)]) rfl (fun i d d' h1 m=>?_) (B6K [] more (.fm []) (.inl ⟨_,rfl⟩) (by simp only[C9w];omega) _ (D1K ?_))
  rotate_left
  ·exact⟨rfl,rfl⟩
  match i with
  |0=>cases h1;cases m;exact C3K _ (.fm [])
  |1=>cases h1;cases m;exact .same _
  |i+2=>cases h1
 ·intro ev e e1;simp only[go_sem,seval,show ev (.tmp 2)= .box g 0 from e1,o];exact D1K ⟨rfl,rfl⟩
 ·intro ev e e1;simp only[go_sem,seval,show ev (.tmp 9)= .agg (C0 f)from e1,e.func,show ev (.const (.bool false))= .bool false from e.const _];exact A6I f p q false _ (D1K ⟨rfl,rfl⟩)
 ·intro ev e e1;simp only[go_sem,seval,show ev (.tmp 10)= .agg (C0 (normF f false))from e1];exact fun x hx=>A5G hx rfl ⟨rfl,rfl⟩
 ·intro ev e e1 e2;simp only[go_sem,seval,show ev (.tmp 8)= .agg [.sl 3 (Rw E4 more),.fm []]from e1,show ev (.tmp 11)= .sl 7 (Rw C0 [normF f false])from e2,e.func];exact B9g 60 _ more [] [normF f false] b hs _ (D1K ⟨rfl,rfl⟩)
 ·intro ev e e1;simp only[go_sem,seval,show ev (.tmp 12)= .bool b from e1];exact D1K ⟨rfl,rfl⟩
 ·exact D1H j h
theorem A7b{Q}(f g:Fm)(I:G8 D5 f=true)(A:FmFit f)(r:G8 D5 g=true)(u:FmFit g)(b:Bool)(hs:V6 (.mk 5 0 nilL D1 [f,normF g true]) []=some b)(hn:G8 D5 (.mk 5 0 nilL D1 [f,normF g true])=true)(H:Heap)(h:Q (.bool (!b)) H):D7 84 [.agg (C0 f),.agg (C0 g)] H Q:=by
 refine A2w (ops:=foOps) A5 Tryz.func84 rfl (by kernel_rfl) (C9q (by kernel_rfl)) 7 4 rfl (by kernel_rfl) (by kernel_rfl) (by kernel_rfl) (by kernel_rfl) (by kernel_rfl) ?_;simp only[go_sem,seval];intro j C m p;simp only[A6]at p;have q:j≠m:=fun e=>p.1 e.symm;have y:((H.set j (.box (C0 f))).set m (.box (C0 g))) j=some (.box (C0 f)):=by rw[A3 _ q,A2]
 have z:((H.set j (.box (C0 f))).set m (.box (C0 g))) m=some (.box (C0 g)):=A2 _ _;have o:H.Le ((H.set j (.box (C0 f))).set m (.box (C0 g))):=(A0 C).trans (A0 (by simp only[A6];exact p));generalize (H.set j (.box (C0 f))).set m (.box (C0 g))=Bs at y z o⊢;have G:FmFit (.mk 5 0 nilL D1 [f,normF g true]):=R9 (by simp[W3]) (by simp) fun k hk=>by
  simp only[D0H,D0I,or_false]at hk;rcases hk with rfl|rfl
  ·exact A
  ·exact(A55 g true r u).1
 refine⟨fun i=>if i=0 then .agg (C0 f)else if i=1 then .agg (C0 g)else if i=2 then .agg (C0 (normF g true))else if i=3 then .sl 7 (Rw C0 [f,normF g true])else if i=4 then .agg (C0 (.mk 5 0 nilL D1 [f,normF g true]))else if i=5 then .bool b else .bool (!b),C2v ?_ ?_ ?_ ?_ ?_ ?_ ?_ ?_,?_⟩
 ·intro ev d e1;simp only[go_sem,seval,show ev (.tmp 2)= .box j 0 from e1,y];exact D1K ⟨rfl,rfl⟩
 ·intro ev d e1;simp only[go_sem,seval,show ev (.tmp 3)= .box m 0 from e1,z];exact D1K ⟨rfl,rfl⟩
 ·intro ev d e1;simp only[go_sem,seval,show ev (.tmp 6)= .agg (C0 g)from e1,d.func,show ev (.const (.bool true))= .bool true from d.const _];exact A6I g r u true _ (D1K ⟨rfl,rfl⟩)
 ·intro ev d e1 e2;simp only[go_sem,seval,show ev (.tmp 5)= .agg (C0 f)from e1,show ev (.tmp 7)= .agg (C0 (normF g true))from e2];exact fun x hx=>A5G hx rfl ⟨rfl,rfl⟩
 ·intro ev d e1;simp only[go_sem,seval,show ev (.tmp 8)= .sl 7 (Rw C0 [f,normF g true])from e1,show ev (.const (.int .i64 5))= .int .i64 5 from d.const _];refine E3 (B1b 5 0 0 false D1 _) (D1K ?_);exact⟨rfl,rfl⟩
 ·intro ev d e1;simp only[go_sem,seval,show ev (.tmp 9)= .agg (C0 (.mk 5 0 nilL D1 [f,normF g true]))from e1,d.func,show ev (.const (.slice none 0 0))= .nilsl from d.const _];refine A0P 3 ?_;exact A3e _ hn G [] (by simp) b hs _ (D1K ⟨rfl,rfl⟩)
 ·intro ev d e1;simp only[go_sem,seval,show ev (.tmp 10)= .bool b from e1];exact D1K ⟨rfl,rfl⟩
 ·intro ev d e1;simp only[go_sem,seval,show ev (.tmp 11)= .bool (!b)from e1];exact D1K ⟨rfl,rfl⟩
 ·exact D1H o h
theorem B9h{Q}(b:Nat)(o ms:List ByteArray)(W:o.Nodup)(H:Heap)(hb:H b=some (.map (C7 tt o)))
  (h: ∀K:List ByteArray,K.Nodup→(∀x,x∈K↔x∈o∨x∈ms)→Q (.tuple []) (H.set b (.map (C7 tt K)))):D7 126 [.map b,.fm (C7 tt ms)] H Q:=by
 refine A8 [] A5 Tryz.func126 rfl ?_;simp only[go_sem,seval,Tryz.results126];have m:(C7 tt ms).length=ms.length:=by simp[C7]
 repeat' intro r
 rename_i d;have J:=r;clear r;have y:b≠d:=fun e=>by rw[←e,hb]at J;cases J
 have Y:H.set d (.rng (C7 tt ms) [])=(H.set b (.map (C7 tt o))).set d (.rng (C7 tt ms) []):=by rw[B2r hb]
 rw[Y];refine C9 [0,7] (fun(p:List Nat×List ByteArray)=>[]) (fun(p:List Nat×List ByteArray)=>(H.set b (.map (C7 tt p.2))).set d (.rng (C7 tt ms) p.1)) (fun(p:List Nat×List ByteArray)=>p.2.Nodup∧∀x,x∈p.2↔x∈o∨∃i,∃g:i<ms.length,i∈p.1∧ms[i]=x) (fun(p:List Nat×List ByteArray)=>A6G ms.length p.1) (([],o)) (⟨W,fun x=>by simp⟩) (by simp only[go_sem,seval]) (by first|exact D1G _|exact A0 (by assumption)|exact B2 (by assumption)|simp only[Heap.Le,Heap.set,Heap.del]at* <;>grind) ?_;rintro Ec rfl ⟨s,K⟩ ⟨A,hs⟩;simp only at A hs;have e7:((H.set b (.map (C7 tt K))).set d (.rng (C7 tt ms) s)) d=some (.rng (C7 tt ms) s):=A2 _ _;repeat' simp only[go_sem,seval,e7]
 refine A77 (fun i g hn=>?_) (fun u=>?_)
 ·rw[m]at g;have T:(((H.set b (.map (C7 tt K))).set d (.rng (C7 tt ms) s)).set d (.rng (C7 tt ms) (s++[i]))) d=some (.rng (C7 tt ms) (s++[i])):=A2 _ _;have U:(((H.set b (.map (C7 tt K))).set d (.rng (C7 tt ms) s)).set d (.rng (C7 tt ms) (s++[i]))) b=some (.map (C7 tt K)):=by rw[A3 _ y,A3 _ y];exact A2 _ _
  have ek:(C7 tt ms)[i]? =some (.str ms[i],.bool true):=by simp[C7,g]
  have L:(C7 tt ms)[i]'(by rw[m];exact g)=(.str ms[i],.bool true):=by simp[C7]
  have V: ∀X:Av.Obj,((((H.set b (.map (C7 tt K))).set d (.rng (C7 tt ms) s)).set d (.rng (C7 tt ms) (s++[i]))).set b X)=(H.set b X).set d (.rng (C7 tt ms) (s++[i])):=fun X=>by
   funext k
   by_cases C:k=b
   ·subst C;rw[A2,A3 _ y,A2]
   ·rw[A3 _ C];by_cases G:k=d
    ·subst G;rw[A2,A2]
    ·rw[A3 _ G,A3 _ G,A3 _ C,A3 _ G,A3 _ C]
  generalize (((H.set b (.map (C7 tt K))).set d (.rng (C7 tt ms) s)).set d (.rng (C7 tt ms) (s++[i])))=Gs at T U V⊢;repeat' simp only[go_sem,seval,T,U,ek,L,List.getLast?_concat,X9 _ _ _ _ A,A2v]
  refine C2 (s++[i],I1 K ms[i]) ⟨A2u A,fun x=>?_⟩ (A1z g hn) (by simp only[go_sem,seval]) (by show Heap.Le ((H.set b _).set d _) _;rw[←V];exact D1G _);simp only[A98];rw[hs x];constructor
  ·rintro((q|⟨j,M,O,I⟩)|q)
   ·exact .inl q
   ·exact .inr ⟨j,M,List.mem_append_left _ O,I⟩
   ·exact .inr ⟨i,g,by simp,q.symm⟩
  ·rintro(q|⟨j,M,O,I⟩)
   ·exact .inl (.inl q)
   ·rcases D0F.1 O with z|z
    ·exact .inl (.inr ⟨j,M,z,I⟩)
    ·rw[D0G]at z;subst z;exact .inr I.symm
 ·repeat' simp only[go_sem,seval]
  refine D1H (A0 (by rw[A3 _ y.symm];exact J)) (h K A fun x=>?_);rw[hs x];refine or_congr Iff.rfl ⟨?_,fun hx=>?_⟩
  ·rintro⟨i,g,_,rfl⟩;exact C93 g
  ·obtain⟨i,g,rfl⟩:=List.getElem_of_mem hx;exact⟨i,g,u i (by rw[m];exact g),rfl⟩
theorem B7E{Q}(ks ms:List ByteArray)(d:ks.Nodup)(H:Heap)(h: ∀K:List ByteArray,K.Nodup→(∀x,x∈K↔x∈ks∨x∈ms)→Q (.fm (C7 tt K)) H):D7 75 [.fm (C7 tt ks),.fm (C7 tt ms)] H Q:=by
 refine A8 [] A5 Tryz.func75 rfl ?_;simp only[go_sem,seval,Tryz.results75];repeat' (first|with_reducible apply C9p|simp only[go_sem,seval]|simp(disch:=omega) only[D0]|simp(disch:=first|omega|grind) only[F0]|intro g|omega)
 refine A1P _ _ fun b hb=>?_;repeat' simp only[go_sem,seval]
 refine B9h b ks ms d _ (A2 _ _) fun K i hx=>?_;repeat' simp only[go_sem,seval]
 exact A4m (kvs:=C7 tt K) (A2 _ _) (D1H (fun k o hk=>by
  have:k≠b:=fun e=>by rw[e,hb]at hk;cases hk
  rw[F0 this,A3 _ this];exact hk) (h K i hx))
theorem C09{Q}(f g:Fm)(q:FmFit f)(r:FmFit g)(G:VOk f)(I:VOk g)(J:E5 f=true)(L:E5 g=true)(hm:meetL (D4.intsL [f,g]) (C5.boolsL [f,g])=false)(hl:(upS (D4.intsL [f,g])).length+(upS (C5.boolsL [f,g])).length≤12)(H:Heap)(h:Q (.int .i64 0) H):
  D7 83 [.agg (C0 f),.agg (C0 g)] H Q:=by
 refine A8 [] A5 Tryz.func83 rfl ?_;simp only[go_sem,seval,Tryz.results83];intro i M j o;simp only[A6]at o;have p:i≠j:=fun e=>o.1 e.symm;have u:((H.set i (.box (C0 f))).set j (.box (C0 g))) i=some (.box (C0 f)):=by rw[A3 _ p,A2]
 have y:((H.set i (.box (C0 f))).set j (.box (C0 g))) j=some (.box (C0 g)):=A2 _ _;have m:H.Le ((H.set i (.box (C0 f))).set j (.box (C0 g))):=(A0 M).trans (A0 (by simp only[A6];exact o));generalize (H.set i (.box (C0 f))).set j (.box (C0 g))=Bs at u y m⊢;have z:=fun(Q:D→Heap→Prop) (H:Heap)=>Q5 (Q:=Q) f q G H;have A:=fun(Q:D→Heap→Prop) (H:Heap)=>Q5 (Q:=Q) g r I H;rw[J]at z;rw[L]at A;have O:(C7 tt (I9 (D4.intsL [f,g]))).length=(upS (D4.intsL [f,g])).length:=by rw[show (C7 tt (I9 (D4.intsL [f,g]))).length=(I9 (D4.intsL [f,g])).length by simp[C7],A3X]
 have T:(C7 tt (I9 (C5.boolsL [f,g]))).length=(upS (C5.boolsL [f,g])).length:=by rw[show (C7 tt (I9 (C5.boolsL [f,g]))).length=(I9 (C5.boolsL [f,g])).length by simp[C7],A3X]
 have C:=fun(Q:D→Heap→Prop) (H:Heap)=>B10 (Q:=Q) (I9 (D4.intsL [f,g])) (I9 (C5.boolsL [f,g])) H;rw[A1N (l':=D4.intsL [f,g]) (m':=C5.boolsL [f,g]) (fun x=>F9 _ _) (fun x=>F9 _ _),hm]at C;have U: ¬((12:Int)<((upS (D4.intsL [f,g])).length:Int)+(upS (C5.boolsL [f,g])).length):=by omega
 repeat' (first|simp only[go_sem,seval,u,y]|(intro d;try simp only[A6]at d)|with_reducible refine z _ _ ?_|with_reducible refine A _ _ ?_)
 rename_i x;have hx:=d;clear d;refine Q6 (es:=Rw C0 [f,g]) hx rfl ?_;refine A8d [f,g] (fun k hk=>by
  simp only[D0H,D0I,or_false]at hk;rcases hk with rfl|rfl
  ·exact q
  ·exact r) (by simp) _ ?_
 repeat' (first|with_reducible apply C9p|simp only[go_sem,seval,O,T,U]|simp(disch:=omega) only[A4,D0]|with_reducible refine C _ _ ?_)
 exact D1H m h
end Go.Proofs.YtibphjonmikciaaGreatDoor
namespace Go.Fo
open Go Go.Av Go.Lexs Go.Lin
def K5:Fm→List VlV→Bool
 | .mk o n l s ks,vs=>
  if o=1 then decide (n=1)
  else if o=2 then y7 l ((J3 l.k l.t vs).getD 0)
  else if o=3 then decide ((L4 vs s).getD 0=1)
  else if o=4 then !valH ks vs
  else if o=5 then valA ks vs
  else valE ks vs
where
 valH:List Fm→List VlV→Bool
 | [],_=>false
 |f::_,vs=>K5 f vs
 valA:List Fm→List VlV→Bool
 | [],_=>true
 |f::fs,vs=>K5 f vs&&valA fs vs
 valE:List Fm→List VlV→Bool
 | [],_=>false
 |f::fs,vs=>K5 f vs||valE fs vs
theorem B9i(ks:List Fm)(vs:List VlV):K5.valA ks vs=ks.all (K5 · vs):=by
 induction ks with
 |nil=>rfl
 |cons f fs d=>rw[K5.valA,d];rfl
theorem B9j(ks:List Fm)(vs:List VlV):K5.valE ks vs=ks.any (K5 · vs):=by
 induction ks with
 |nil=>rfl
 |cons f fs d=>rw[K5.valE,d];rfl
theorem C3L{f:Fm}(vs:List VlV)(h:f.op=1):K5 f vs=decide (f.n=1):=by
 obtain⟨o,n,l,s,ks⟩:=f;simp only[Fm.op]at h;subst h;rw[K5,if_pos rfl];rfl
theorem C3M{f:Fm}(vs:List VlV)(h:f.op=2):K5 f vs=y7 f.l ((J3 f.l.k f.l.t vs).getD 0):=by
 obtain⟨o,n,l,s,ks⟩:=f;simp only[Fm.op]at h;subst h;rw[K5,if_neg (by decide),if_pos rfl];rfl
theorem C8d{f:Fm}(vs:List VlV)(h:f.op=3):K5 f vs=decide ((L4 vs f.s).getD 0=1):=by
 obtain⟨o,n,l,s,ks⟩:=f;simp only[Fm.op]at h;subst h;rw[K5,if_neg (by decide),if_neg (by decide),if_pos rfl];rfl
theorem C3N{f k:Fm}(vs:List VlV)(h:f.op=4)(hk:f.ks= [k]):K5 f vs= !K5 k vs:=by
 obtain⟨o,n,l,s,ks⟩:=f;simp only[Fm.op]at h;simp only[Fm.ks]at hk;subst h;subst hk;rw[K5,if_neg (by decide),if_neg (by decide),if_neg (by decide),if_pos rfl];rfl
theorem B7F{f:Fm}(vs:List VlV)(h:f.op=5):K5 f vs=f.ks.all (K5 · vs):=by
 obtain⟨o,n,l,s,ks⟩:=f;simp only[Fm.op]at h;subst h;rw[K5,if_neg (by decide),if_neg (by decide),if_neg (by decide),if_neg (by decide),if_pos rfl,B9i];rfl
theorem B4U{f:Fm}(vs:List VlV)(h:f.op=6):K5 f vs=f.ks.any (K5 · vs):=by
 obtain⟨o,n,l,s,ks⟩:=f;simp only[Fm.op]at h;subst h;rw[K5,if_neg (by decide),if_neg (by decide),if_neg (by decide),if_neg (by decide),if_neg (by decide),B9j];rfl
def A21(f:Fm)(vs:List VlV):Bool:=(ivF f).all (fun s=>(L4 vs s).isSome)&&(bvF f).all (fun s=>(L4 vs s).isSome)
def bits(f:Fm)(vs:List VlV):Bool:=(bvF f).all fun s=>decide ((L4 vs s).getD 0=0)||decide ((L4 vs s).getD 0=1)
def atF(f:Fm)(vs:List VlV):Bool×Int:=
 if E5 f=true∧M2 vs=true then(if A21 f vs=true then(if bits f vs=true then(K5 f vs,0)else(false,20))else(false,13))else(false,2)
theorem A0z(f:Fm)(vs:List VlV):A21 f vs=true↔∀s,s∈D4 f∨s∈C5 f→(L4 vs s).isSome=true:=by
 unfold A21 ivF bvF;simp only[C92,D0Q,S3];constructor
 ·rintro⟨h1,d⟩ s (h|h);exact h1 s h;exact d s h
 ·intro h;exact⟨fun s hs=>h s (.inl hs),fun s hs=>h s (.inr hs)⟩
theorem A3f(f:Fm)(vs:List VlV):bits f vs=true↔∀s∈C5 f,(L4 vs s).getD 0=0∨(L4 vs s).getD 0=1:=by
 unfold bits bvF;simp only[D0Q,S3,D1C,D0B]
theorem V8(f:Fm)(x:ByteArray):x∈D4 f↔(∃t∈f.l.t,t.v=x)∨∃k∈f.ks,x∈D4 k:=by
 rw[B6A,D0F,D0n];refine or_congr Iff.rfl ?_
 induction f.ks with
 |nil=>simp[D4.intsL]
 |cons f fs d=>rw[D4.intsL,D0F,d];simp
theorem T3(f:Fm)(x:ByteArray):x∈C5 f↔(f.op=3∧f.s=x)∨∃k∈f.ks,x∈C5 k:=by
 rw[B30,D0F];refine or_congr ?_ ?_
 ·by_cases h:f.op=3
  ·rw[if_pos h,D0G];exact⟨fun e=>⟨h,e.symm⟩,fun e=>e.2.symm⟩
  ·rw[if_neg h];simp[h]
 ·induction f.ks with
  |nil=>simp[C5.boolsL]
  |cons f fs d=>rw[C5.boolsL,D0F,d];simp
theorem B4W: ∀(f:Fm) (b:Bool),G8 D5 f=true→(∀x,x∈D4 (normF f b)↔x∈D4 f)∧(∀x,x∈C5 (normF f b)↔x∈C5 f):=by
 intro f
 induction f using P2 with
 |h o n l s ks m=>
  intro b A;have hk: ∀k∈ks,G8 D5 k=true:=fun k hk=>N8 (f:=.mk o n l s ks) A hk;have i: ∀(p:Int),p=5∨p=6→(∀x,x∈D4 (normF (.mk p 0 nilL D1 ks) b)↔x∈D4 (.mk p 0 nilL D1 ks))∧(∀x,x∈C5 (normF (.mk p 0 nilL D1 ks) b)↔x∈C5 (.mk p 0 nilL D1 ks)):=by
   intro p hp;rw[A7K b (by show p≠1;omega) (by show p≠2;omega) (by show p≠3;omega) (by show p≠4;omega)];have C:opO p b≠3:=by unfold opO;split<;>omega
   have G:p≠3:=by omega
   constructor
   ·intro x;rw[V8,V8];refine or_congr Iff.rfl ⟨?_,?_⟩
    ·rintro⟨k,d,hx⟩;obtain⟨g,j,rfl⟩:=D0n.1 d;exact⟨g,j,((m g j b (hk g j)).1 x).1 hx⟩
    ·rintro⟨k,d,hx⟩;exact⟨_,D0n.2 ⟨k,d,rfl⟩,((m k d b (hk k d)).1 x).2 hx⟩
   ·intro x;rw[T3,T3];refine or_congr ⟨fun h=>absurd h.1 C,fun h=>absurd h.1 G⟩ ⟨?_,?_⟩
    ·rintro⟨k,d,hx⟩;obtain⟨g,j,rfl⟩:=D0n.1 d;exact⟨g,j,((m g j b (hk g j)).2 x).1 hx⟩
    ·rintro⟨k,d,hx⟩;exact⟨_,D0n.2 ⟨k,d,rfl⟩,((m k d b (hk k d)).2 x).2 hx⟩
  have z: ∀(l:LinV) e x,(∃t∈(shL l e).t,t.v=x)↔∃t∈l.t,t.v=x:=by
   intro l e x;constructor
   ·rintro⟨t,q,rfl⟩;obtain⟨u,I,rfl⟩:=D0n.1 (show t∈l.t.map _ from q);exact⟨u,I,rfl⟩
   ·rintro⟨t,q,rfl⟩;exact⟨_,D0n.2 ⟨t,q,rfl⟩,rfl⟩
  cases Q4 A with
  |con n h=>rw[B2w b rfl];exact⟨fun x=>Iff.rfl,fun x=>Iff.rfl⟩
  |lin l h hp=>
   rw[B2x b rfl];cases b with
   |false=>exact⟨fun x=>Iff.rfl,fun x=>Iff.rfl⟩
   |true=>
    have y: ∀(e:Int) x,x∈D4 (A0C (shL l e))↔x∈D4 (.mk 2 0 l D1 []):=fun e x=>by
     rw[V8,V8];exact or_congr (z l e x) Iff.rfl
    have hb: ∀(e:Int) x,x∉C5 (A0C (shL l e)):=fun e x hx=>by
     rw[T3]at hx;rcases hx with⟨h1,_⟩|⟨k,d,_⟩
     ·exact absurd h1 (by simp[Fm.op,A0C])
     ·cases d
    have r: ∀x,x∉C5 (.mk 2 0 l D1 []):=fun x hx=>by
     rw[T3]at hx;rcases hx with⟨h1,_⟩|⟨k,d,_⟩
     ·exact absurd h1 (by simp[Fm.op,A0C])
     ·cases d
    simp only[if_true,Fm.l];unfold opL;split
    ·constructor
     ·intro x;rw[V8];constructor
      ·rintro(⟨t,q,_⟩|⟨k,d,hx⟩)
       ·cases q
       ·simp only[Fm.ks,D0H,D0I,or_false]at d;rcases d with rfl|rfl
        ·exact(y _ x).1 hx
        ·exact(y _ x).1 hx
      ·intro hx;exact .inr ⟨_,C90 ..,(y _ x).2 hx⟩
     ·intro x;constructor
      ·intro hx;rw[T3]at hx;rcases hx with⟨h1,_⟩|⟨k,d,hx⟩
       ·exact absurd h1 (by simp[Fm.op])
       ·simp only[Fm.ks,D0H,D0I,or_false]at d;rcases d with rfl|rfl
        ·exact absurd hx (hb _ x)
        ·exact absurd hx (hb _ x)
      ·intro hx;exact absurd hx (r x)
    ·exact⟨y _,fun x=>⟨fun hx=>absurd hx (hb _ x),fun hx=>absurd hx (r x)⟩⟩
  |var s h=>
   rw[B2y b rfl];cases b with
   |false=>exact⟨fun x=>Iff.rfl,fun x=>Iff.rfl⟩
   |true=>
    simp only[if_true];constructor
    ·intro x;rw[V8];simp[Fm.l,Fm.ks,nilL]
    ·intro x;rw[T3];simp[Fm.op,Fm.ks]
  |not k=>
   rw[B2z b rfl rfl];have:=m k (C90 ..) (!b) (hk k (C90 ..));constructor
   ·intro x;rw[this.1,V8 (.mk 4 0 nilL D1 [k])];simp[Fm.l,Fm.ks,nilL]
   ·intro x;rw[this.2,T3 (.mk 4 0 nilL D1 [k])];simp[Fm.op,Fm.ks]
  |and ks=>exact i 5 (.inl rfl)
  |or ks=>exact i 6 (.inr rfl)
theorem B7G(vs:List VlV)(d:Int): ∀(t:List LTm) (k m:Int),J3 k (t.map fun t=>⟨t.v,d*t.c⟩) vs=(J3 m t vs).map fun n=>k+d*(n-m):=by
 intro t
 induction t with
 |nil=>intro k m;simp[J3]
 |cons x t e=>
  intro k m;rw[D06,J3,J3];cases L4 vs x.v with
  |none=>rfl
  |some n=>
   simp only[];rw[e (k+d*x.c*n) (m+x.c*n)];cases J3 (m+x.c*n) t vs with
   |none=>rfl
   |some r=>
    simp only[Option.map_some,D0R];rw[Int.mul_sub,Int.mul_sub,Int.mul_add,Int.mul_assoc];omega
theorem B7H(vs:List VlV): ∀(f:Fm) (b:Bool),G8 D5 f=true→(∀s∈D4 f,(L4 vs s).isSome=true)→(∀s∈C5 f,(L4 vs s).getD 0=0∨(L4 vs s).getD 0=1)→K5 (normF f b) vs=(K5 f vs != b):=by
 intro f
 induction f using P2 with
 |h o n l s ks i=>
  intro b L M hb;have hk: ∀k∈ks,G8 D5 k=true:=fun k hk=>N8 (f:=.mk o n l s ks) L hk;have y: ∀k∈ks,∀s∈D4 k,(L4 vs s).isSome=true:=fun k hk s hs=>M s ((V8 _ s).2 (.inr ⟨k,hk,hs⟩));have z: ∀k∈ks,∀s∈C5 k,(L4 vs s).getD 0=0∨(L4 vs s).getD 0=1:=fun k hk s hs=>hb s ((T3 _ s).2 (.inr ⟨k,hk,hs⟩));have g:=fun k hm=>i k hm b (hk k hm) (y k hm) (z k hm);have A: ∀(m:List Fm) (p:Fm→Bool),(m.all fun x=>(p x != true))= !m.any p:=fun m p=>by
   induction m with
   |nil=>rfl
   |cons x m i=>rw[D0s,D0u,i];cases p x<;>simp
  have C: ∀(m:List Fm) (p:Fm→Bool),(m.any fun x=>(p x != true))= !m.all p:=fun m p=>by
   induction m with
   |nil=>rfl
   |cons x m i=>rw[D0s,D0u,i];cases p x<;>simp
  have j: ∀(p q:Fm→Bool),(∀k∈ks,p k=q k)→ks.all p=ks.all q:=fun p q h=>by
   rw[Bool.eq_iff_iff,D0Q,D0Q];exact forall_congr' fun k=>forall_congr' fun hm=>by rw[h k hm]
  have r: ∀(p q:Fm→Bool),(∀k∈ks,p k=q k)→ks.any p=ks.any q:=fun p q h=>by
   rw[Bool.eq_iff_iff,List.any_eq_true,List.any_eq_true];exact exists_congr fun k=>and_congr_right fun hm=>by rw[h k hm]
  cases Q4 L with
  |con n h=>
   rw[B2w b rfl,C3L _ rfl,C3L _ rfl];show decide ((if b=true then 1-n else n)=1)=(decide (n=1) != b);rcases h with rfl|rfl<;>cases b<;>decide
  |lin l h hp=>
   rw[B2x b rfl];cases b with
   |false=>simp
   |true=>
    simp only[if_true,Fm.l];have u: ∃n,J3 l.k l.t vs=some n:=by
     have I: ∀t∈l.t,(L4 vs t.v).isSome=true:=fun t T=>M t.v ((V8 _ _).2 (.inl ⟨t,T,rfl⟩));have key: ∀(m:List LTm) (k:Int),(∀t∈m,(L4 vs t.v).isSome=true)→∃n,J3 k m vs=some n:=by
      intro m
      induction m with
      |nil=>intro k _;exact⟨k,rfl⟩
      |cons t m i=>
       intro k hm;obtain⟨v,hv⟩:=Option.isSome_iff_exists.1 (hm t (C90 ..));rw[J3,hv];exact i _ fun x hx=>hm x (C97 _ hx)
     exact key l.t l.k I
    obtain⟨n,hn⟩:=u;have J: ∀d:Int,J3 (shL l d).k (shL l d).t vs=some (d*n-1):=fun d=>by
     show J3 (d*l.k-1) (l.t.map fun t=>⟨t.v,d*t.c⟩) vs=_;rw[B7G vs d l.t _ l.k,hn,Option.map_some,Int.mul_sub]
     congr 1;omega
    have v0:K5 (.mk 2 0 l D1 []) vs=y7 l n:=by rw[C3M _ rfl];show y7 l ((J3 l.k l.t vs).getD 0)=_;rw[hn];rfl
    have G: ∀d:Int,K5 (A0C (shL l d)) vs=y7 (shL l d) (d*n-1):=fun d=>by
     rw[C3M _ rfl];show y7 (shL l d) ((J3 (shL l d).k (shL l d).t vs).getD 0)=_;rw[J];rfl
    have O: ∀d:Int,y7 (shL l d) (d*n-1)=decide (0≤d*n-1):=fun d=>by
     unfold y7 shL;rw[Bool.eq_iff_iff];simp only[D1E,Bool.and_true,D1C,D0B];omega
    rw[v0];unfold opL;cases he:l.e with
    |true=>
     simp only[if_true];rw[B4U _ rfl];show ([A0C (shL l 1),A0C (shL l (-1))].any (K5 · vs))=_;simp only[D0u,List.any_nil,Bool.or_false,G,O];unfold y7;rw[he];simp only[D1D,Bool.and_false,Bool.or_false];rw[Bool.eq_iff_iff];simp only[D1C,D0B,bne_iff_ne,ne_eq,D0B];omega
    |false=>
     simp only[C95,if_false];rw[G,O];unfold y7;rw[he];simp only[D1E,Bool.and_true];rw[Bool.eq_iff_iff];simp only[D1C,D0B,bne_iff_ne,ne_eq,D0B];omega
  |var s h=>
   rw[B2y b rfl];cases b with
   |false=>simp
   |true=>
    simp only[if_true];rw[C3N _ rfl rfl];cases K5 (.mk 3 0 nilL s []) vs<;>rfl
  |not k=>
   rw[B2z b rfl rfl,C3N (f:=.mk 4 0 nilL D1 [k]) (k:=k) _ rfl rfl,i k (C90 ..) (!b) (hk k (C90 ..)) (y k (C90 ..)) (z k (C90 ..))];cases K5 k vs<;>cases b<;>rfl
  |and ks=>
   rw[A7K b (by simp[Fm.op]) (by simp[Fm.op]) (by simp[Fm.op]) (by simp[Fm.op])];cases b with
   |false=>
    rw[B7F _ rfl,B7F _ rfl];show (ks.map (normF · false)).all (K5 · vs)=_;rw[List.all_map,j _ (K5 · vs) (fun k hm=>by simp only[Function.comp];rw[g k hm];simp)];simp[Fm.ks]
   |true=>
    rw[B4U _ rfl,B7F _ rfl];show (ks.map (normF · true)).any (K5 · vs)=_;rw[List.any_map,r _ (fun k=>K5 k vs != true) (fun k hm=>by simp only[Function.comp];rw[g k hm]),C];simp[Fm.ks]
  |or ks=>
   rw[A7K b (by simp[Fm.op]) (by simp[Fm.op]) (by simp[Fm.op]) (by simp[Fm.op])];cases b with
   |false=>
    rw[B4U _ rfl,B4U _ rfl];show (ks.map (normF · false)).any (K5 · vs)=_;rw[List.any_map,r _ (K5 · vs) (fun k hm=>by simp only[Function.comp];rw[g k hm];simp)];simp[Fm.ks]
   |true=>
    rw[B7F _ rfl,B4U _ rfl];show (ks.map (normF · true)).all (K5 · vs)=_;rw[List.all_map,j _ (fun k=>K5 k vs != true) (fun k hm=>by simp only[Function.comp];rw[g k hm]),A];simp[Fm.ks]
theorem B7I{f:Fm}{vs:List VlV}(h1:(atF f vs).2=0)(d:(notF f).2=0):atF (notF f).1 vs=(!(atF f vs).1,0):=by
 unfold atF at h1;by_cases hv:E5 f=true∧M2 vs=true
 ·rw[if_pos hv]at h1;by_cases hk:A21 f vs=true
  ·rw[if_pos hk]at h1;by_cases hb:bits f vs=true
   ·have e1:atF f vs=(K5 f vs,0):=by unfold atF;rw[if_pos hv,if_pos hk,if_pos hb]
    rw[e1];unfold notF at d⊢;rw[if_pos hv.1]at d⊢;by_cases hn:E5 (normF f true)=true
    ·rw[if_pos hn];have h:=L5 hv.1;have nv:=B4W f true h;have e:A21 (normF f true) vs=true:=by
      rw[A0z]at hk⊢;intro s hs;exact hk s (hs.imp (nv.1 s).1 (nv.2 s).1)
     have g:bits (normF f true) vs=true:=by
      rw[A3f]at hb⊢;intro s hs;exact hb s ((nv.2 s).1 hs)
     show atF (normF f true) vs=_;unfold atF;rw[if_pos ⟨hn,hv.2⟩,if_pos e,if_pos g,B7H vs f true h (fun s hs=>(A0z f vs).1 hk s (.inl hs)) ((A3f f vs).1 hb)];cases K5 f vs<;>rfl
    ·rw[if_neg hn]at d;exact absurd d (by decide)
   ·rw[if_neg hb]at h1;exact absurd h1 (by decide)
  ·rw[if_neg hk]at h1;exact absurd h1 (by decide)
 ·rw[if_neg hv]at h1;exact absurd h1 (by decide)
def A10(o:Int)(l:List Fm):Fm×Int:=
 if l.all E5=true then(if meetL (D4.intsL l) (C5.boolsL l)=true then(T1,15)else if E5 (.mk o 0 nilL D1 l)=true then(.mk o 0 nilL D1 l,0)else(T1,3))else(T1,2)
def nX:ByteArray:=⟨#[120]⟩
def nB:ByteArray:=⟨#[98]⟩
def fxL(k:Int)(e:Bool):Fm:=A0C ⟨[⟨nX,1⟩],k,e⟩
def fxV:Fm:=.mk 3 0 nilL nB []
def A4M:Fm:=.mk 4 0 nilL D1 [fxV]
def A00(l:List Fm):Fm:=.mk 5 0 nilL D1 l
def fxF:Fm:=A00 [fxL (-1) false,.mk 6 0 nilL D1 [fxL (-3) true,A4M]]
def fxP:Fm:=fxL 0 false
def fxN:Fm:=normF fxF true
def fxA:Fm:=A00 [fxF,fxN]
def fxS:Fm:=A00 [fxF,A4M]
def fxVals:List VlV:=[⟨nB,0⟩,⟨nX,1⟩]
theorem A8g:D8 fxF= [38,40,120,45,49,62,61,48,44,32,124,40,120,45,51,61,48,44,32,33,63,98,41,41]:=by decide+kernel
theorem B0f:D8 fxP= [120,62,61,48]:=by decide+kernel
theorem B7J:D8 fxN= [124,40,45,120,62,61,48,44,32,38,40,124,40,120,45,52,62,61,48,44,32,45,120,43,50,62,61,48,41,44,32,63,98,41,41]:=by decide+kernel
theorem P9:E5 fxF=true∧E5 fxP=true∧E5 fxN=true∧E5 fxA=true:=by decide+kernel
theorem A4N:V6 fxF []=some true∧V6 fxA []=some false∧V6 (A00 [fxF,normF fxP true]) []=some false∧V6 (A00 [fxF,normF fxF true]) []=some false∧V6 fxS []=some true:=by decide+kernel
theorem B9k:B5r (fun more=>V6 fxS more) nX=some 1:=by decide+kernel
theorem C6R:atF fxF fxVals=(true,0):=by decide+kernel
theorem B3H:ivF fxF= [nX]∧bvF fxF= [nB]:=by decide+kernel
theorem C3O:notF fxF=(fxN,0):=by
 unfold notF;rw[if_pos P9.1,if_pos (show E5 (normF fxF true)=true from P9.2.2.1)];rfl
theorem B3I:meetL (D4.intsL [fxF,fxN]) (C5.boolsL [fxF,fxN])=false∧meetL (D4.intsL []) (C5.boolsL [])=false:=by decide+kernel
theorem C3P:A10 5 [fxF,fxN]=(fxA,0):=by
 unfold A10;rw[if_pos (by simp only[D0s,List.all_nil,P9.1,P9.2.2.1,Bool.and_true]),B3I.1,if_neg (by decide),if_pos (show E5 (.mk 5 0 nilL D1 [fxF,fxN])=true from P9.2.2.2)];rfl
theorem C3Q:E5 (.mk 6 0 nilL D1 [])=true:=by decide+kernel
theorem C6S:A10 6 []=(.mk 6 0 nilL D1 [],0):=by
 unfold A10;rw[if_pos (show List.all [] E5=true from rfl),B3I.2,if_neg (by decide),if_pos C3Q]
structure RdS(H H':Heap)(br:Nat)(r:List UInt8)(bad:Bool):Prop where
 here:H' br=some (.box [.str (S r),.bool bad])
 els: ∀k,k≠br→H' k=H k
theorem RdS.set(H:Heap)(br:Nat)(r:List UInt8)(bad:Bool):RdS H (H.set br (.box [.str (S r),.bool bad])) br r bad:=⟨A2 _ _,fun _ hk=>A3 _ hk⟩
theorem RdS.trans{H e i:Heap}{br:Nat}{r j:List UInt8}{bad d:Bool}(h:RdS H e br r bad)(g:RdS e i br j d):RdS H i br j d:=⟨g.here,fun k hk=>(g.els k hk).trans (h.els k hk)⟩
theorem RdS.keep{H H':Heap}{br b:Nat}{r:List UInt8}{bad:Bool}(h:RdS H H' br r bad){o:Av.Obj}(hb:H b=some o)(d:b≠br):H' b=some o:=by rw[h.els b d];exact hb
theorem RdS.le{G H H':Heap}{br:Nat}{r:List UInt8}{bad:Bool}(h:RdS H H' br r bad)(d:G.Le H)(g:G br=none):G.Le H':=fun k o hk=>by
 rw[h.els k (fun e=>by rw[e,g]at hk;cases hk)];exact d k o hk
def tillI(r:List UInt8):Int:=Lib.indexAny r [44,41]
theorem tillI_spec: ∀r:List UInt8,(tillI r= -1∧L3 r=r∧P7 r= [])∨(0≤tillI r∧tillI r≤r.length∧L3 r=r.take (tillI r).toNat∧P7 r=r.drop (tillI r).toNat):=by
 intro r
 induction r with
 |nil=>exact .inl ⟨rfl,rfl,rfl⟩
 |cons c r o=>
  have e:tillI (c::r)=if [44,41].contains c=true then 0 else if(tillI r== -1)=true then-1 else tillI r+1:=rfl
  have hs: [44,41].contains c=B0Y c:=by
   unfold B0Y;simp only[List.contains_cons,List.contains_nil,Bool.or_false]
  rw[e,hs];cases hc:B0Y c with
  |true=>
   right
   have hn:nst c=false:=by unfold nst;rw[hc];rfl
   have d:L3 (c::r)= []:=by unfold L3;rw[List.takeWhile_cons,hn];rfl
   have g:P7 (c::r)=c::r:=by unfold P7;rw[List.dropWhile_cons,hn];rfl
   rw[d,g];exact⟨Int.le_refl _,by simp only[if_true];omega,rfl,rfl⟩
  |false=>
   have hn:nst c=true:=by unfold nst;rw[hc];rfl
   have d:L3 (c::r)=c::L3 r:=by unfold L3;rw[List.takeWhile_cons,hn];rfl
   have g:P7 (c::r)=P7 r:=by unfold P7;rw[List.dropWhile_cons,hn];rfl
   rw[d,g];simp only[C95,if_false];rcases o with⟨h1,m,h⟩|⟨h1,m,h,p⟩
   ·left
    rw[h1,m,h];simp
   ·right
    have i:(tillI r== -1)=false:=by rw[beq_eq_false_iff_ne];omega
    have j:(tillI r+1).toNat=(tillI r).toNat+1:=by omega
    rw[i];simp only[C95,if_false];rw[j,List.take_succ_cons,List.drop_succ_cons,←h,←p];refine⟨by omega,by simp only[C9u];omega,rfl,rfl⟩
end Go.Fo
namespace Go.Proofs.YtibphjonmikciaaGreatDoor
open Go Go.Av Go.Lexs Go.Lin Go.Fo
attribute [local irreducible] ACalls W4
open Go.RowKit in
theorem B0g{Q}(s p:ByteArray)(H:Heap)(h:Q (.tuple [.str (S (if pre (B p) (B s)=true then(B s).drop p.size else B s)),.bool (pre (B p) (B s))]) H):D7 145 [.str s,.str p] H Q:=
 I4 (by kernel_rfl) (fun w vs hl hr hs=>by
  obtain⟨a,b,rfl,j,hb⟩:=x9 hl hr;rw[j.str_inv,hb.str_inv];refine(Tryz.strings_CutPrefix s p w).mono fun e w' ⟨he,hw⟩=>?_;subst hw;have e1:Lib.hasPrefix s.data.toList p.data.toList=pre (B p) (B s):=rfl;have e2:Lib.trimPrefix s.data.toList p.data.toList=if pre (B p) (B s)=true then(B s).drop p.size else B s:=by
   have:=Y7 p;rw[←this];rfl
  rw[e1,e2]at he;exact⟨_,he,Below.refl _ _,.tuple _ _ rfl fun i d g=>(match i,g with|0,g=>by simp at g;subst g;exact .str _|1,g=>by simp at g;subst g;exact .bool _|i+2,g=>by simp at g)⟩) h
def A6L(r:List UInt8):Prop:=∀(Q:D→Heap→Prop) (H:Heap),Q (.int .i64 (tillI r)) H→D7 146 [.str (S r),.str ⟨#[44,41]⟩] H Q
open Go.RowKit in
theorem B12{r:List UInt8}(hr:r.length≤1000000)(m: ∀c∈r,c.toNat<128):A6L r:=fun Q H h=>
 I4 (by kernel_rfl) (fun w vs hl g o=>by
  obtain⟨a,b,rfl,i,hb⟩:=x9 hl g;rw[i.str_inv,hb.str_inv];refine(Tryz.strings_IndexAny_laid (S r) ⟨#[44,41]⟩ w (by rw[O1];omega) (by decide) (fun j b d=>m b (D0M (by rw[show (S r).data.toList=r from l9 r]at d;exact d))) (fun j b d=>by
   have hm:=D0M d;have key: ∀c∈(⟨#[44,41]⟩:ByteArray).data.toList,c.toNat<128:=by decide
   exact key b hm)).mono fun e w' ⟨he,hw⟩=>?_
  refine⟨_,he,hw,?_⟩;rw[show (S r).data.toList=r from l9 r];exact .int _ _) h
theorem A22{Q}(br:Nat)(p:ByteArray)(r:List UInt8)(bad:Bool)(H:Heap)(hb:H br=some (.box [.str (S r),.bool bad]))(h: ∀H',RdS H H' br (if pre (B p) r=true then r.drop p.size else r) bad→Q (.bool (pre (B p) r)) H'):D7 117 [.box br 0,.str p] H Q:=by
 refine A8 [] A5 Tryz.func117 rfl ?_;simp only[go_sem,seval,Tryz.results117];have d:=fun(Q:D→Heap→Prop) (H:Heap)=>B0g (Q:=Q) (S r) p H;rw[l9]at d;repeat' (first|simp only[go_sem,seval,hb]|with_reducible refine d _ _ ?_)
 exact D1K (h _ (RdS.set _ _ _ _))
theorem B3J{Q}(br:Nat)(r:List UInt8)(bad:Bool)(hr:r.length≤1000000)(hx:A6L r)(H:Heap)(hb:H br=some (.box [.str (S r),.bool bad]))(h: ∀H',RdS H H' br (P7 r) bad→Q (.str (S (L3 r))) H'):D7 118 [.box br 0] H Q:=by
 refine A8 [] A5 Tryz.func118 rfl ?_;simp only[go_sem,seval,Tryz.results118];have hsz:=O1 r;rcases tillI_spec r with⟨h1,g,i⟩|⟨h1,g,i,j⟩
 ·have e:=hx;unfold A6L at e;rw[h1]at e;rw[g,i]at h;have m:S (r.take r.length)=S r:=by rw[List.take_length]
  have o:S (r.drop r.length)=S []:=by rw[List.drop_length]
  repeat' (first|with_reducible apply C9p|simp only[go_sem,seval,hb,hsz]|with_reducible refine e _ _ ?_|omega)
  simp only[m,o];exact D1K (h _ (RdS.set _ _ _ _))
 ·have e:=hx;unfold A6L at e;have d: ¬tillI r<0:=by omega
  rw[i,j]at h;generalize tillI r=z at h1 g h e d;repeat' (first|with_reducible apply C9p|simp only[go_sem,seval,hb,hsz,d]|with_reducible refine e _ _ ?_|omega)
  exact D1K (h _ (RdS.set _ _ _ _))
end Go.Proofs.YtibphjonmikciaaGreatDoor
namespace Go.Fo
open Go Go.Av Go.Lexs Go.Lin
theorem A6M(w:List UInt8):a8 (M5 w).1∧(M5 w).1.t.length≤12:=by
 rw[B6q];split
 ·rename_i h;have ok:=L9 h.1;refine⟨⟨by have:=ok.len;simp only[];omega,fun t d=>?_,fun t d=>?_,?_⟩,ok.len⟩
  ·have:=A2x (M7 ok.t t d).1;omega
  ·have:=(M7 ok.t t d).2.2;unfold W3;omega
  ·have:=ok.k;unfold W3;simp only[];omega
 ·exact⟨A1R,by simp[nilL]⟩
structure Sz(f:Fm)(m:Nat):Prop where
 fit:FmFit f
 wt:K9 f≤m
structure SzL(l:List Fm)(m:Nat):Prop where
 fit: ∀f∈l,FmFit f
 wt:K9.wtL l≤m
theorem B9l:Sz T1 1:=⟨R9 (by simp[W3]) (by simp) (by simp),by decide⟩
theorem A8h{o:Int}{l:List Fm}{m:Nat}(ho:W3 o)(h:SzL l m)(hm:m≤1000000):Sz (.mk o 0 nilL D1 l) (1+m):=
 ⟨R9 ho (by have:=B81 l;have:=h.wt;omega) h.fit,by rw[L2];simp[Fm.l,Fm.ks,nilL];exact h.wt⟩
theorem C3R{f:Fm}{m:Nat}(h:Sz f m):SzL [f] m:=⟨fun k hk=>by rw[D0G]at hk;rw[hk];exact h.fit,by simp[K9.wtL];exact h.wt⟩
theorem B3K{l:List Fm}{f:Fm}{m n:Nat}(hl:SzL l m)(h:Sz f n):SzL (l++[f]) (m+n):=⟨fun k hk=>by
 rcases D0F.1 hk with g|g
 ·exact hl.fit k g
 ·rw[D0G]at g;rw[g];exact h.fit,by rw[B2l];simp only[K9.wtL];have:=hl.wt;have:=h.wt;omega⟩
theorem A6N(m:Nat):SzL [] m:=⟨by simp,by simp[K9.wtL]⟩
theorem Sz.le{f:Fm}{m n:Nat}(h:Sz f m)(hm:m≤n):Sz f n:=⟨h.fit,D0v h.wt hm⟩
theorem SzL.le{f:List Fm}{m n:Nat}(h:SzL f m)(hm:m≤n):SzL f n:=⟨h.fit,D0v h.wt hm⟩
theorem B7K(n:Int)(h:W3 n):Sz (.mk 1 n nilL D1 []) 1:=⟨.mk _ _ _ _ _ (by simp[W3]) h A1R (by decide) (by simp) (by simp),by rw[L2];simp[Fm.l,Fm.ks,nilL,K9.wtL]⟩
theorem C3S(s:ByteArray)(h:s.size≤1000000):Sz (.mk 3 0 nilL s []) 1:=⟨.mk _ _ _ _ _ (by simp[W3]) (by simp[W3]) A1R (by omega) (by simp) (by simp),by rw[L2];simp[Fm.l,Fm.ks,nilL,K9.wtL]⟩
theorem C3T(w:List UInt8):Sz (A0C (M5 w).1) 13:=⟨A1x (A6M w).1,by have:=(A6M w).2;rw[L2];simp[Fm.l,Fm.ks,A0C,K9.wtL];omega⟩
theorem A6O(r:List UInt8):(L3 r).length+(P7 r).length=r.length:=by
 unfold L3 P7;rw[←C9v,List.takeWhile_append_dropWhile]
theorem A1U{p r:List UInt8}(h:pre p r=true):p.length≤r.length:=by
 unfold pre at h;exact(List.isPrefixOf_iff_prefix.1 h).length_le
theorem B9m(w:List UInt8):Sz (A6k w).1 13:=by
 unfold A6k;split
 ·exact(B7K 1 (by simp[W3])).le (by omega)
 ·split
  ·exact(B7K 0 (by simp[W3])).le (by omega)
  ·exact C3T w
def C3U(form:List UInt8→Fm×List UInt8×Bool):Prop:=∀r:List UInt8,r.length≤20000→(form r).2.1.length≤r.length∧Sz (form r).1 (14*(r.length-(form r).2.1.length)+13)
theorem B7L{d:List UInt8→Fm×List UInt8×Bool}(g:C3U d): ∀(n:Nat) (r:List UInt8) (out:List Fm) (m:Nat),r.length≤20000→SzL out m→(A0w d n r out).2.1.length≤r.length∧SzL (A0w d n r out).1 (m+14*(r.length-(A0w d n r out).2.1.length)):=by
 intro n
 induction n with
 |zero=>intro r out m hr hm;exact⟨C99 _,A6N _⟩
 |succ n j=>
  intro r out m hr hm;obtain⟨h1,e⟩:=g r hr;rw[A0w];split
  ·rename_i h;have:=A1U h;simp only[C9u,C9w]at this;simp only[D0N];exact⟨by omega,(B3K hm e).le (by omega)⟩
  ·split
   ·exact⟨h1,A6N _⟩
   ·split
    ·rename_i h;have:=A1U h;simp only[C9u,C9w]at this;have i:=j ((d r).2.1.drop 2) _ _ (by rw[D0N];omega) (B3K hm e);rw[D0N]at i;exact⟨by omega,i.2.le (by omega)⟩
    ·exact⟨h1,A6N _⟩
theorem B0h{d:List UInt8→Fm×List UInt8×Bool}(e:C3U d)(r:List UInt8)(hr:r.length≤20000):(W9 d r).2.1.length≤r.length∧SzL (W9 d r).1 (14*(r.length-(W9 d r).2.1.length)):=by
 unfold W9;split
 ·simp only[D0N];exact⟨by omega,A6N _⟩
 ·have:=B7L e (r.length+1) r [] 0 hr (A6N _);rw[Nat.zero_add]at this;exact this
theorem B0i: ∀e,C3U (G2 e):=by
 intro e
 induction e with
 |zero=>intro r hr;exact⟨C99 _,B9l.le (by omega)⟩
 |succ e d=>
  intro r hr;rw[G2];split
  ·rename_i h;have:=A1U h;have t:=A6O (r.drop 1);rw[D0N]at t;simp only[C9u,C9w]at this;exact⟨by simp only[];omega,(C3S _ (by rw[O1];omega)).le (by omega)⟩
  ·split
   ·rename_i h;have:=A1U h;simp only[C9u,C9w]at this;have i:=d (r.drop 1) (by rw[D0N];omega);rw[D0N]at i;exact⟨by simp only[];omega,(A8h (by simp[W3]) (C3R i.2) (by omega)).le (by simp only[];omega)⟩
   ·split
    ·rename_i h;have:=A1U h;simp only[C9u,C9w]at this;have i:=B0h d (r.drop 2) (by rw[D0N];omega);rw[D0N]at i;exact⟨by simp only[];omega,(A8h (by simp[W3]) i.2 (by omega)).le (by simp only[];omega)⟩
    ·split
     ·rename_i h;have:=A1U h;simp only[C9u,C9w]at this;have i:=B0h d (r.drop 2) (by rw[D0N];omega);rw[D0N]at i;exact⟨by simp only[];omega,(A8h (by simp[W3]) i.2 (by omega)).le (by simp only[];omega)⟩
     ·have t:=A6O r;exact⟨by simp only[];omega,(B9m _).le (by omega)⟩
end Go.Fo
namespace Go.Proofs.YtibphjonmikciaaGreatDoor
open Go Go.Shelf Go.RowKit
def ApW(w w':World)(v v':Value)(n m:Nat):Prop:=
 (∃g cap,v= .slice (some ⟨g,0,none⟩) n cap∧v'= .slice (some ⟨g,0,none⟩) (n+m) cap)∨
 ((∀k,k<w.heap.size→w'.heap[k]? =w.heap[k]?)∧∀k,v'.ownBlock=some k→w.heap.size≤k)
theorem A8i{P:Program}{w:World}(t u ty e:TypeId)(i:TypeInfo)(A:P.underlying t=some (.slice e))(C:P.underlying u=some .string)(G:P.info? e=some i)(O:i.zero=some (.int .u8 0))
  (h:i.size=1) (y:i.bytes=1) (v:Value) (n:Nat) (xs:List Value) (m:w.ownsRow 0 e 1 v n xs) (s:ByteArray) (z:n+s.size≤maxLen) (o:n+s.size≤140737488355328)
  {T:Value} {w':World} (hr:(Builtin.append_ #[t,u] ty #[v,.string s]).run P w= .ok T w'):ApW w w' v T n s.size:=by
 rcases m.2 with⟨rfl,rfl⟩|⟨g,cap,p,rfl,I,V,W,X,J,L⟩
 ·have hx:xs= []:=D0D (by simpa using m.1);subst hx;obtain⟨v2,w2,d,Y,h3,_⟩:=Lib.run_append_own_string (P:=P) w w.heap.size t u ty e i A C G O h y (.slice none 0 0) 0 [] (World.ownsRow_nil w _ e 1) s z o (C99 _);rw[hr]at d;cases d;refine .inr ⟨fun k hk=>h3.block k hk (by simp[Value.ownBlock]),fun k hk=>?_⟩;rcases Y.2 with⟨rfl,_⟩|⟨g,cap,p,rfl,I,_⟩
  ·simp[Value.ownBlock]at hk
  ·simp[Value.ownBlock]at hk;omega
 ·by_cases q:n+s.size≤cap
  ·have U:p.size=cap:=by simpa using J
   have d:=Lib.run_append_room_string (P:=P) w t u ty e i A C G h g n cap p V s q (by omega);rw[hr]at d;cases d;exact .inl ⟨g,cap,rfl,rfl⟩
  ·have x: ∀j u,xs[j]? =some u→w.cell? ((⟨g,0,none⟩:Addr).add j)=some u:=m.cells (g:=g) rfl;have M:xs.length=n:=by simpa using m.1
   have d:=Lib.run_append_grow_string (P:=P) w t u ty e i (.int .u8 0) A C G O ⟨g,0,none⟩ n cap xs (by rw[h];simpa using M) x s (by omega) (by simp only[maxLen]at z;omega) (by rw[y];exact growslice_fits (by omega) (by omega));rw[hr]at d;cases d;refine .inr ⟨fun k hk=>heap_alloc_old w.drew _ (r:=k) hk,fun k hk=>?_⟩;simp[Value.ownBlock]at hk;omega
theorem A2X{P:Program}{w:World}{ops:Array Oper}{rest:List Oper}{o:Oper}{a:Act}{Q:Exit→Act→World→Prop}(q:o.guard=none)(sl x:Operand)(t u:TypeId)
  (ho:o.op= .call {callee:=.builtin .append,args:= #[sl,x],argTypes:= #[t,u]})
  (e:TypeId) (i:TypeInfo) (y:P.underlying t=some (.slice e)) (z:P.underlying u=some .string) (A:P.info? e=some i) (C:i.zero=some (.int .u8 0))
  (g:i.size=1) (m:i.bytes=1)
  (v:Value) (n:Nat) (xs:List Value) (hs:a.eval sl=v) (j:w.ownsRow 0 e 1 v n xs) (s:ByteArray) (hx:a.eval x= .string s)
  (p:n+s.size≤maxLen) (d:n+s.size≤140737488355328)
  (h: ∀v' w',w'.ownsRow 0 e 1 v' (n+s.size) (xs++Lib.strCells s)→w.grownBy w' v.ownBlock→(v'= .slice none 0 0↔v= .slice none 0 0∧s.size=0)→ApW w w' v v' n s.size→wpList P ops Q rest (a.put o.dst v') w'):wpList P ops Q (o::rest) a w:=by
 refine wpList_plain q fun K G=>?_;obtain⟨v',w',hr,I,J,L⟩:=Lib.run_append_own_string (P:=P) w 0 t u o.type e i y z A C g m v n xs j s p d (D0A _);have r:=A8i t u o.type e i y z A C g m v n xs j s p d hr;unfold Oper.wp execOp;simp only[ho,resolve,invoke,builtin,Sem.run_bind,Sem.run_pure,Result.andThen_ok,List.map_toArray,D06,List.map_nil,hs,hx,hr];exact G _ _ (h v' w' I J L r)
theorem B0j:(Tryz.prog.info? 97).map (·.size)=some 2:=by kernel_rfl
theorem B7M:liesAt Tryz.prog Tryz.prog.depth 97 (2 / Tryz.prog.cellsOf 97) 0 97 1=true:=by kernel_rfl
theorem B4X:(Tryz.prog.info? 5).map (fun i=>(i.zero,i.size,i.bytes))=some (some (.int .u8 0),1,1):=by kernel_rfl
set_option maxHeartbeats 1000000 in
set_option maxRecDepth 100000 in
theorem A6P(b:Nat)(w:World)(L:w.cell? ⟨b,0,none⟩=some (.pointer (some ⟨b,0,none⟩))):
  Calls Tryz.prog 141 #[.pointer (some ⟨b,0,none⟩)] w fun e w'=>e= .returned (.tuple #[])∧w'=w:=by
 obtain⟨j,r,_⟩:=C9y.1 B0j;have h:Tryz.prog.follows .mixedOrders=true:=by kernel_rfl
 have i:=Tryz.underlying97;have u:=Tryz.isAgg97;have x:=Tryz.sizeOf97;have y:=Tryz.zeroValue97;have z:=run_underlying i;have d:=Tryz.underlying94;have A:=Tryz.isAgg94;have C:=Tryz.sizeOf94;have G:=Tryz.zeroValue94;have I:=run_underlying d;have J:=Tryz.underlying4;have M:=Tryz.isAgg4;have O:=Tryz.sizeOf4;have v4:=Tryz.zeroValue4;have T:=run_underlying J;have g:=Tryz.underlying197;have m:=Tryz.isAgg197;have o:=Tryz.sizeOf197;have p:=Tryz.zeroValue197;have q:=run_underlying g
 go_enter Tryz.func141,Tryz.ntmps141
 go_wp2
 rw[Lib.run_neq_ptr_same w _ d r]
 go_wp2
 go_end0
 exact⟨rfl,rfl⟩
set_option maxHeartbeats 1000000 in
set_option maxRecDepth 100000 in
theorem A40(b:Nat)(w:World)(T:w.cell? ⟨b,0,none⟩=some (.pointer none))(h:w.shape? b=some (97,2))(y:w.frozen? ⟨b,0,none⟩=false):
  Calls Tryz.prog 141 #[.pointer (some ⟨b,0,none⟩)] w fun e w'=>e= .returned (.tuple #[])∧w'=w.setCell ⟨b,0,none⟩ (.pointer (some ⟨b,0,none⟩)):=by
 obtain⟨j,p,i⟩:=C9y.1 B0j;have m:Tryz.prog.follows .mixedOrders=true:=by kernel_rfl
 have o:=Tryz.underlying97;have z:=Tryz.isAgg97;have A:=Tryz.sizeOf97;have C:=Tryz.zeroValue97;have G:=run_underlying o;have g:=Tryz.underlying94;have I:=Tryz.isAgg94;have J:=Tryz.sizeOf94;have L:=Tryz.zeroValue94;have M:=run_underlying g;have O:=Tryz.underlying4;have U:=Tryz.isAgg4;have V:=Tryz.sizeOf4;have v4:=Tryz.zeroValue4;have W:=run_underlying O;have d:=Tryz.underlying197;have q:=Tryz.isAgg197;have r:=Tryz.sizeOf197;have u:=Tryz.zeroValue197;have x:=run_underlying d
 go_enter Tryz.func141,Tryz.ntmps141
 go_wp2
 rw[Lib.run_to_unsafe w ⟨b,0,none⟩ g d p (by rw[i];decide) h (Nat.zero_lt_succ 1)];simp only[Result.andThen];rw[Oper.upon_value]
 go_wp2
 rw[run_callFunc_extern Tryz.func175 (by kernel_rfl) (by kernel_rfl) (by kernel_rfl) (e:=Extern.AbiNoEscape.same) (by kernel_rfl)];rw[Lib.run_noEscape];simp only[Result.andThen];rw[Oper.upon_value]
 go_wp2
 rw[Lib.run_from_unsafe w ⟨b,0,none⟩ d g p h B7M];simp only[Result.andThen];rw[Oper.upon_value]
 go_wp2
 go_end0
 exact⟨rfl,rfl⟩
theorem A7c{w:World}{b:Nat}{cs:Array Value}{T:TypeId}{d:Nat×Nat}(hb:w.heap[b]? =some (.cells cs T d))(j:Nat)(e: ¬(d.1≤j∧j<d.2)):w.frozen? ⟨b,j,none⟩=false:=by
 obtain⟨lo,g⟩:=d;simp only[World.frozen?,hb];simpa using e
theorem A6l(b:Nat)(p v:Value)(d:Nat×Nat)(w:World)(hp:p= .pointer none∨p= .pointer (some ⟨b,0,none⟩))(hb:w.heap[b]? =some (.cells #[p,v] 97 d))(i: ∀j,j<2→¬(d.1≤j∧j<d.2)):
  Calls Tryz.prog 141 #[.pointer (some ⟨b,0,none⟩)] w fun e w'=>e= .returned (.tuple #[])∧w'.heap[b]? =some (.cells #[.pointer (some ⟨b,0,none⟩),v] 97 d)∧w.grownBy w' (some b)∧w'.heap.size=w.heap.size:=by
 have h:w.cell? ⟨b,0,none⟩=some p:=by simp[World.cell?,hb]
 rcases hp with rfl|rfl
 ·refine(A40 b w h (by simp[World.shape?,hb]) (A7c hb 0 (i 0 (by omega)))).mono ?_;rintro e w' ⟨rfl,rfl⟩;refine⟨rfl,?_,⟨rfl,rfl,rfl,by simp[World.setCell],fun k hk g=>?_⟩,by simp[World.setCell]⟩
  ·rw[Lib.heap_setCell_same hb];rfl
  ·exact Below.heap_setCell w _ _ k (fun e=>g (by rw[e]))
 ·refine(A6P b w h).mono ?_;rintro e w' ⟨rfl,rfl⟩;exact⟨rfl,hb,⟨rfl,rfl,rfl,C99 _,fun _ _ _=>rfl⟩,rfl⟩
set_option maxHeartbeats 2000000 in
set_option maxRecDepth 100000 in
theorem A41(b:Nat)(p v:Value)(bs:List Value)(s:ByteArray)(q:Nat×Nat)(w:World)(hp:p= .pointer none∨p= .pointer (some ⟨b,0,none⟩))(hb:w.heap[b]? =some (.cells #[p,v] 97 q))
  (hf: ∀j,j<2→¬(q.1≤j∧j<q.2)) (A:w.ownsRow 0 5 1 v bs.length bs) (C:v.ownBlock≠some b) (hlen:bs.length+s.size≤140737488355328):
  Calls Tryz.prog 114 #[.pointer (some ⟨b,0,none⟩),.string s] w fun e w'=>e= .returned (.tuple #[.int .i64 s.size,.nilIface])∧∃h i x,h.heap[b]? =some (.cells #[.pointer (some ⟨b,0,none⟩),v] 97 q)∧w.grownBy h (some b)∧h.heap.size=w.heap.size∧
   h.grownBy i v.ownBlock∧i.ownsRow 0 5 1 x (bs.length+s.size) (bs++Lib.strCells s)∧(x= .slice none 0 0↔v= .slice none 0 0∧s=ByteArray.empty)∧ApW h i v x bs.length s.size∧i.heap[b]? =some (.cells #[.pointer (some ⟨b,0,none⟩),v] 97 q)∧w'=i.setCell ⟨b,1,none⟩ x:=by
 obtain⟨i0,hi,T,U,V⟩:=info_parts B4X;have W:Tryz.prog.follows .mixedOrders=true:=by kernel_rfl
 have X:=Tryz.underlying97;have b1:=Tryz.isAgg97;have b2:=Tryz.sizeOf97;have b3:=Tryz.zeroValue97;have b4:=run_underlying X;have Y:=Tryz.underlying94;have b6:=Tryz.isAgg94;have b7:=Tryz.sizeOf94;have b8:=Tryz.zeroValue94;have b9:=run_underlying Y;have G:=Tryz.underlying95;have c2:=Tryz.isAgg95;have c5:=Tryz.sizeOf95;have c6:=Tryz.zeroValue95;have c7:=run_underlying G;have t3:=Tryz.underlying3;have a3:=Tryz.isAgg3;have z3:=Tryz.sizeOf3;have v3:=Tryz.zeroValue3;have u3:=run_underlying t3;have t9:=Tryz.underlying9;have a9:=Tryz.isAgg9;have z9:=Tryz.sizeOf9;have v9:=Tryz.zeroValue9;have u9:=run_underlying t9;have t4:=Tryz.underlying4;have a4:=Tryz.isAgg4;have z4:=Tryz.sizeOf4;have v4:=Tryz.zeroValue4;have u4:=run_underlying t4;have t5:=Tryz.underlying5;have a5:=Tryz.isAgg5;have z5:=Tryz.sizeOf5;have v5:=Tryz.zeroValue5;have u5:=run_underlying t5;have b0: ∀args w,(callFunc 141 args).run Tryz.prog w= .ok (.enter 141 args) w:=enters_of Tryz.func141 (by kernel_rfl) rfl
 go_enter Tryz.func114,Tryz.ntmps114
 go_wp2_with (go_at_fn 141;refine(A6l b p v q _ hp hb hf).mono ?_)
 rintro e h ⟨rfl,m,I,J⟩;have z:h.ownsRow 0 5 1 v bs.length bs:=A.kept I (.inr C);have c0:h.cell? ⟨b,0,none⟩=some (.pointer (some ⟨b,0,none⟩)):=by simp[World.cell?,m]
 have c1:h.cell? ⟨b,1,none⟩=some v:=by simp[World.cell?,m]
 go_wp2_with (at_builtin;refine A2X rfl _ _ 95 9 rfl 5 i0 G t9 hi T U V _ _ _ rfl z s rfl ?c3 ?c4 ?_)
 case c3=>unfold maxLen;omega
 case c4=>omega
 intro x i d o y L;have a0:b<h.heap.size:=by
  rcases Nat.lt_or_ge b h.heap.size with h'|h'
  ·exact h'
  ·simp[Array.getElem?_eq_none h']at m
 have r:i.heap[b]? =some (.cells #[.pointer (some ⟨b,0,none⟩),v] 97 q):=by
  rw[o.block b a0 (fun e=>C e.symm)];exact m
 have d0:i.cell? ⟨b,0,none⟩=some (.pointer (some ⟨b,0,none⟩)):=by simp[World.cell?,r]
 have d1:i.cell? ⟨b,1,none⟩=some v:=by simp[World.cell?,r]
 have f1:i.frozen? ⟨b,1,none⟩=false:=A7c r 1 (hf 1 (by omega));have a6: ∃ao n' cap,x= .slice ao n' cap:=by
  rcases d.2 with⟨hv,_⟩|⟨g,cap,c8,hv,_⟩
  ·exact⟨_,_,_,hv⟩
  ·exact⟨_,_,_,hv⟩
 have fin:=(⟨h,i,x,m,I,J,o,d,y,L,r,rfl⟩: ∃M O u,M.heap[b]? =some (.cells #[.pointer (some ⟨b,0,none⟩),v] 97 q)∧w.grownBy M (some b)∧M.heap.size=w.heap.size∧
   M.grownBy O v.ownBlock∧O.ownsRow 0 5 1 u (bs.length+s.size) (bs++Lib.strCells s)∧(u= .slice none 0 0↔v= .slice none 0 0∧s=ByteArray.empty)∧ApW M O v u bs.length s.size∧O.heap[b]? =some (.cells #[.pointer (some ⟨b,0,none⟩),v] 97 q)∧i.setCell ⟨b,1,none⟩ x=O.setCell ⟨b,1,none⟩ u)
 clear d y L;obtain⟨ao,n',cap,rfl⟩:=a6
 go_wp2
 go_ret2
 exact⟨rfl,fin⟩
set_option maxHeartbeats 1000000 in
set_option maxRecDepth 100000 in
theorem A6m(b g cap:Nat)(p:Value)(d:Array Value)(l:List UInt8)(C:Nat×Nat)(w:World)(G:l≠[])(o:w.heap[b]? =some (.cells #[p,.slice (some ⟨g,0,none⟩) l.length cap] 97 C))
  (I:w.heap[g]? =some (.cells d 5 (0,0))) (T:l.length≤cap) (q:cap≤maxLen) (U:d.size=cap) (i:d.toList.take l.length=l.map fun x=>Value.int .u8 x.toNat):
  Calls Tryz.prog 69 #[.pointer (some ⟨b,0,none⟩)] w fun e w'=>e= .returned (.string ⟨l.toArray⟩)∧w'=w.drew.freeze ⟨g,0,none⟩ l.length:=by
 have V:l.length≠0:=by simpa using G
 have c1:w.drew.cell? ⟨b,1,none⟩=some (.slice (some ⟨g,0,none⟩) l.length cap):=by
  have:w.drew.heap[b]? =some (.cells #[p,.slice (some ⟨g,0,none⟩) l.length cap] 97 C):=o;simp[World.cell?,this]
 have r:0<l.length:=by omega
 have W:(Builtin.unsafeSliceData_ #[95] 144 #[.slice (some ⟨g,0,none⟩) l.length cap]).run Tryz.prog w.drew= .ok (.pointer (some ⟨g,0,none⟩)) w.drew:=
  Lib.run_unsafeSliceData_row _ _ _ _ _ _ (by omega)
 have h:=Tryz.underlying144;have J:=Tryz.isAgg144;have L:=Tryz.sizeOf144;have M:=Tryz.zeroValue144;have O:=run_underlying h;have X:(Builtin.unsafeString_ #[144,3] 9 #[.pointer (some ⟨g,0,none⟩),.int .i64 l.length]).run Tryz.prog w.drew= .ok (.string ⟨l.toArray⟩) (w.drew.freeze ⟨g,0,none⟩ l.length):=by
  refine Lib.run_unsafeString_row w.drew 144 3 9 5 h (by kernel_rfl) g d.size (by have m:w.drew.heap[g]? =some (.cells d 5 (0,0)):=I;simp[World.shape?,m]) l G (by omega) (by unfold maxLen at q;omega) ?_;intro j x hx;have Y:=(C9z.1 hx).1;have m:w.drew.heap[g]? =some (.cells d 5 (0,0)):=I;have h1:(d.toList.take l.length)[j]? =some (Value.int .u8 x.toNat):=by rw[i,D0C,hx];rfl
  rw[List.getElem?_take,if_pos Y]at h1;have e1:(⟨g,0,none⟩:Addr).add j=⟨g,j,none⟩:=by unfold Addr.add;split<;>simp_all
  rw[e1,Lib.cell_of_heap m];simpa using h1
 have u:Tryz.prog.follows .mixedOrders=true:=by kernel_rfl
 have y:=Tryz.underlying97;have a0:=Tryz.isAgg97;have a4:=Tryz.sizeOf97;have a6:=Tryz.zeroValue97;have b0:=run_underlying y;have z:=Tryz.underlying94;have b1:=Tryz.isAgg94;have b2:=Tryz.sizeOf94;have b3:=Tryz.zeroValue94;have b4:=run_underlying z;have A:=Tryz.underlying95;have b6:=Tryz.isAgg95;have b7:=Tryz.sizeOf95;have b8:=Tryz.zeroValue95;have b9:=run_underlying A;have t3:=Tryz.underlying3;have a3:=Tryz.isAgg3;have z3:=Tryz.sizeOf3;have v3:=Tryz.zeroValue3;have u3:=run_underlying t3;have t9:=Tryz.underlying9;have a9:=Tryz.isAgg9;have z9:=Tryz.sizeOf9;have v9:=Tryz.zeroValue9;have u9:=run_underlying t9;have t5:=Tryz.underlying5;have a5:=Tryz.isAgg5;have z5:=Tryz.sizeOf5;have v5:=Tryz.zeroValue5;have u5:=run_underlying t5
 go_enter Tryz.func69,Tryz.ntmps69
 go_wp2
 go_region_o
 all_goals (go_wp2;go_ret;exact⟨rfl,rfl⟩)
end Go.Proofs.YtibphjonmikciaaGreatDoor
namespace Go.Proofs.YtibphjonmikciaaGreatDoor
open Go Go.Av Go.RowKit
def K6(H:Heap)(b:Nat):Option Nat→List UInt8→Heap
 |none,_=>H.set b (.box [.nilp,.nilsl] (some 97))
 |some c,bs=>(H.set b (.box [.box b 0,.vec c 1 0 bs.length] (some 97))).set c (.buf 5 bs)
structure BldOk(H:Heap)(b:Nat)(st:Option Nat)(bs:List UInt8):Prop where
 hb:H b=none
 hn:st=none→bs= []
 hs: ∀c,st=some c→c≠b∧H c=none∧bs≠[]
theorem T4{H:Heap}{b k:Nat}{st:Option Nat}{bs:List UInt8}(h1:k≠b)(d:st≠some k):K6 H b st bs k=H k:=by
 cases st with
 |none=>simp[K6,Heap.set,h1]
 |some c=>
  have:k≠c:=fun e=>d (by rw[e]);simp[K6,Heap.set,h1,this]
theorem B7N{H:Heap}{b:Nat}{st:Option Nat}{bs:List UInt8}(h:BldOk H b st bs): ∃cs,K6 H b st bs b=some (.box cs (some 97)):=by
 cases st with
 |none=>exact⟨_,by simp[K6,Heap.set];rfl⟩
 |some c=>
  have d:b≠c:=Ne.symm (h.hs c rfl).1;exact⟨[.box b 0,.vec c 1 0 bs.length],by simp only[K6,Heap.set,if_neg d,if_true]⟩
theorem A2T{H:Heap}{b k:Nat}{st:Option Nat}{bs:List UInt8}(h:BldOk H b st bs)(hk:(K6 H b st bs).held k=false):k≠b∧st≠some k:=by
 constructor
 ·rintro rfl;obtain⟨cs,e⟩:=B7N h;rw[I6 e]at hk;cases hk
 ·rintro rfl;have e:K6 H b (some k) bs k=some (.buf 5 bs):=by simp[K6,Heap.set]
  rw[I6 e]at hk;cases hk
theorem B3L{H:Heap}{b:Nat}{st:Option Nat}{bs:List UInt8}{w:World}(hs:Sat (K6 H b st bs) w)(h:BldOk H b st bs):
  ∃p v r,w.heap[b]? =some (.cells #[p,v] 97 r)∧(∀j,j<2→¬(r.1≤j∧j<r.2))∧(p= .pointer none∨p= .pointer (some ⟨b,0,none⟩))∧
   w.ownsRow 0 5 1 v bs.length (bs.map fun x=>Value.int .u8 x.toNat)∧v.ownBlock=st:=by
 have g: ∀{cs:List D} {c:Array Value},cs.length=2→RowR w (K6 H b st bs) cs c→∃x y,c= #[x,y]:=fun {cs c} q hr=>by
  have d:=hr.len;obtain⟨l⟩:=c;simp only[List.size_toArray]at d
  match l,(by omega:l.length=2)with
  | [x,y],_=>exact⟨x,y,rfl⟩
 cases st with
 |none=>
  have U:bs= []:=h.hn rfl;subst U;obtain⟨c,T,lo,u,h1,q,d,z⟩:=box_inv (hs b (.box [.nilp,.nilsl] (some 97)) (by simp[K6,Heap.set]));have A:=z _ rfl;subst A;obtain⟨x,y,rfl⟩:=g rfl d;have i:=d.rel 0 _ rfl;have e:=d.rel 1 _ rfl;simp at i e;cases i;cases e;exact⟨_,_,(lo,u),h1,fun j C=>q j (by simpa using C),.inl rfl,World.ownsRow_nil w 0 _ 1,rfl⟩
 |some c=>
  obtain⟨G,V,I⟩:=h.hs c rfl;obtain⟨Y,T,lo,u,h1,q,d,z⟩:=box_inv (hs b (.box [.box b 0,.vec c 1 0 bs.length] (some 97)) (by have J:b≠c:=Ne.symm G;simp only[K6,Heap.set,if_neg J,if_true]));have A:=z _ rfl;subst A;obtain⟨x,y,rfl⟩:=g rfl d;have i:=d.rel 0 _ rfl;have e:=d.rel 1 _ rfl;simp at i e;obtain⟨o,O,g2,g3,W⟩:=hs c (.buf 5 bs) (by simp[K6,Heap.set]);cases i;have L:bs.length≠0:=by simpa using I
  generalize hn:bs.length=n at e;cases e with
  |vec0=>exact absurd hn L
  |vec _ _ _ _ cap T m hb X hsz hcap=>
   have M:w.shape? c=some (5,o.size):=by simp[World.shape?,O]
   rw[M]at hb;cases hb;subst hn;refine⟨_,_,(lo,u),h1,fun j C=>q j (by simpa using C),.inr rfl,⟨by simp,.inr ⟨c,cap,o,by simp,D0A _,O,hcap,?_,by omega,by simpa using W⟩⟩,rfl⟩;unfold maxLen;omega
set_option maxHeartbeats 1000000 in
theorem N4{Q}(b:Nat)(st:Option Nat)(bs:List UInt8)(s:ByteArray)(H:Heap)(u:BldOk H b st bs)(a9:s.size≠0)(hlen:bs.length+s.size≤140737488355328)
  (h: ∀c',BldOk H b (some c') (bs++B s)→Q (.tuple [.int .i64 s.size,.nilif]) (K6 H b (some c') (bs++B s))):D7 114 [.box b 0,.str s] (K6 H b st bs) Q:=by
 refine⟨by kernel_rfl,fun w vs hl hr hs=>?_⟩;obtain⟨a,x,rfl,ha,hx⟩:=x9 hl hr;rw[hx.str_inv];have ea:a= .pointer (some ⟨b,0,none⟩):=by cases ha;rfl
 rw[ea];obtain⟨p,v,fr,W,hf,hp,O,hst⟩:=B3L hs u;have b0:v.ownBlock≠some b:=by
  rw[hst];exact fun e=>(u.hs b e).1 rfl
 have X:(bs.map fun x=>Value.int .u8 x.toNat).length=bs.length:=by simp
 refine(A41 b p v (bs.map fun x=>Value.int .u8 x.toNat) s fr w hp W hf (by rw[X];exact O) b0 (by rw[X];exact hlen)).mono ?_;rintro e w' ⟨rfl,w1,T,v',k1,k2,k3,k4,k5,k6,k7,k8,rfl⟩;rw[X]at k5 k7;have c1:b<w.heap.size:=(D0E.1 W).1;have b1:s≠ByteArray.empty:=by rintro rfl;exact a9 rfl
 obtain⟨g,m,A,rfl,_,hg,b2,b3,b4,a0⟩: ∃g cap y,v'= .slice (some ⟨g,0,none⟩) (bs.length+s.size) cap∧0≤g∧T.heap[g]? =some (.cells y 5 (0,0))∧bs.length+s.size≤cap∧cap≤maxLen∧y.size=cap*1∧y.toList.take ((bs.length+s.size)*1)=(bs.map fun x=>Value.int .u8 x.toNat)++Lib.strCells s:=by
  rcases k5.2 with⟨hv,_⟩|hv
  ·exact absurd (k6.1 hv).2 b1
  ·exact hv
 --what is as_ it was
 have C: ∀k,k<w.heap.size→k≠b→st≠some k→(T.setCell ⟨b,1,none⟩ (.slice (some ⟨g,0,none⟩) (bs.length+s.size) m)).heap[k]? =w.heap[k]? :=fun k hk q z=>by
  rw[Below.heap_setCell _ _ _ k q,k4.block k (by omega) (by rw[hst];exact fun e=>z e.symm),k2.block k hk (fun e=>q (Option.some.inj e))]
 have Y:st=some g∨w.heap.size≤g:=by
  rcases k7 with⟨g',cap,e1,e2⟩|⟨_,e2⟩
  ·cases e2
   left
   rw[←hst,e1];rfl
  ·right
   have:=e2 g rfl;omega
 have J:g≠b:=by
  rintro rfl;rcases Y with e|e
  ·exact(u.hs g e).1 rfl
  ·omega
 have b6:H g=none:=by
  rcases Y with e|e
  ·exact(u.hs g e).2.1
  ·have:=hs.fresh e;rw[T4 J (fun e'=>by
    obtain⟨x,hx⟩: ∃x,K6 H b st bs g=some x:=⟨_,by rw[e'];simp[K6,Heap.set];rfl⟩
    rw[this]at hx;cases hx)]at this
   exact this
 have c2:B s=s.data.toList:=rfl;have L:(bs++B s).length=bs.length+s.size:=by rw[C9v,Y7]
 have a4:BldOk H b (some g) (bs++B s):=⟨u.hb,(fun e=>by cases e),fun c e=>by
  cases e;exact⟨J,b6,fun e=>by
   have h3:=congrArg List.length e;rw[L,C9w]at h3;omega⟩⟩
 have U:(T.setCell ⟨b,1,none⟩ (.slice (some ⟨g,0,none⟩) (bs.length+s.size) m)).heap[b]? =some (.cells #[.pointer (some ⟨b,0,none⟩),.slice (some ⟨g,0,none⟩) (bs.length+s.size) m] 97 fr):=by
  rw[Lib.heap_setCell_same k8];rfl
 have G:(T.setCell ⟨b,1,none⟩ (.slice (some ⟨g,0,none⟩) (bs.length+s.size) m)).heap[g]? =some (.cells A 5 (0,0)):=by
  rw[Below.heap_setCell _ _ _ g J];exact hg
 have V:Ext (K6 H b st bs) w (T.setCell ⟨b,1,none⟩ (.slice (some ⟨g,0,none⟩) (bs.length+s.size) m)):=by
  refine⟨k4.os.trans k2.os,k4.tape.trans k2.tape,k4.output.trans k2.output,by have:=k4.size;have:=k2.size;simp[World.setCell];omega,fun k hk hn=>C k hk (A2T u hn).1 (A2T u hn).2,fun k hk=>?_⟩;by_cases q:k=b
  ·subst q;simp[World.shape?,U,W]
  ·by_cases z:st=some k
   ·
    obtain⟨c,cap,y,e1,_,e2,e3,e4,e5,e6⟩: ∃g cap y,v= .slice (some ⟨g,0,none⟩) bs.length cap∧0≤g∧w.heap[g]? =some (.cells y 5 (0,0))∧bs.length≤cap∧cap≤maxLen∧y.size=cap*1∧y.toList.take (bs.length*1)=bs.map fun x=>Value.int .u8 x.toNat:=by
     rcases O.2 with⟨hv,_⟩|hv
     ·rw[hv,z]at hst;cases hst
     ·exact hv
    have b7:c=k:=by rw[e1,z]at hst;simpa [Value.ownBlock]using hst
    subst b7;rcases k7 with⟨g',c0,f1,f2⟩|⟨f1,f2⟩
    ·rw[e1]at f1;cases f1;cases f2;simp[World.shape?,G,e2,b4,e5]
    ·have h1:(T.setCell ⟨b,1,none⟩ (.slice (some ⟨g,0,none⟩) (bs.length+s.size) m)).heap[c]? =w.heap[c]? :=by
      rw[Below.heap_setCell _ _ _ c q,f1 c (by omega),k2.block c hk (fun e=>q (Option.some.inj e))]
     unfold World.shape?;rw[h1]
   ·unfold World.shape?;rw[C k hk q z]
 have I:From w (K6 H b st bs) (K6 H b (some g) (bs++B s)):=fun k hk hn=>by
  obtain⟨n1,n2⟩:=A2T u hn;have M:k≠g:=by
   rintro rfl;rcases Y with e|e
   ·exact n2 e
   ·omega
  rw[A0D (H:=H) (T4 n1 (fun e=>M (Option.some.inj e).symm))];rwa [A0D (H:=H) (T4 n1 n2)]at hn
 have a5:A.toList.take (bs++B s).length=(bs++B s).map fun x=>Value.int .u8 x.toNat:=by
  rw[L];have:(bs.length+s.size)*1=bs.length+s.size:=by omega
  rw[this]at a0;rw[a0,D0p];rfl
 have a6:Sat (K6 H b (some g) (bs++B s)) (T.setCell ⟨b,1,none⟩ (.slice (some ⟨g,0,none⟩) (bs.length+s.size) m)):=by
  intro k o ho;by_cases M:k=g
  ·subst M;have:o= .buf 5 (bs++B s):=by
    have e:K6 H b (some k) (bs++B s) k=some (.buf 5 (bs++B s)):=by simp[K6,Heap.set]
    rw[e]at ho;exact(Option.some.inj ho).symm
   subst this;exact⟨A,G,by rw[L];omega,by unfold maxLen at b3;omega,a5⟩
  ·by_cases q:k=b
   ·subst q;have:o= .box [.box k 0,.vec g 1 0 (bs++B s).length] (some 97):=by
     have e:K6 H k (some g) (bs++B s) k=some (.box [.box k 0,.vec g 1 0 (bs++B s).length] (some 97)):=by have b8:k≠g:=Ne.symm J;simp only[K6,Heap.set,if_neg b8,if_true]
     rw[e]at ho;exact(Option.some.inj ho).symm
    subst this;obtain⟨lo,hi⟩:=fr;refine A3r (fun t e=>by cases e;rfl) U (fun j hj=>hf j (by simpa using hj)) ⟨rfl,fun i d r=>?_,fun i d r=>?_⟩
    ·match i,r with
     |0,r=>cases r;rfl
     |1,r=>cases r;rfl
     |i+2,r=>simp at r
    ·match i,r with
     |0,r=>cases r;exact .box k 0
     |1,r=>
      cases r;rw[L];have hv:=R.vec (w:=T.setCell ⟨k,1,none⟩ (.slice (some ⟨g,0,none⟩) (bs.length+s.size) m)) (H:=K6 H k (some g) (bs++B s)) g 1 0 (bs.length+s.size) m 5 A.size (by simp[World.shape?,G]) (by omega) (by omega) b2;simpa using hv
     |i+2,r=>simp at r
   ·have e1:K6 H b (some g) (bs++B s) k=H k:=T4 q (fun e=>M (Option.some.inj e).symm);rw[e1]at ho;have z:st≠some k:=fun e=>by rw[(u.hs k e).2.1]at ho;cases ho
    have e2:K6 H b st bs k=H k:=T4 q z;have b9:=hs k o (by rw[e2];exact ho);exact b9.mono V I (C k (hs.lt (by rw[e2];exact ho)) q z)
 refine⟨_,rfl,.tuple [.int .i64 s.size,.nilif],_,.tuple _ _ rfl (fun i d r=>?_),a6,V,I,h g a4⟩
 match i,r with
 |0,r=>cases r;exact .int _ _
 |1,r=>cases r;exact .nilif
 |i+2,r=>simp at r
theorem A4O{w:World}{g n k:Nat}(h:k≠g):(w.freeze ⟨g,0,none⟩ n).heap[k]? =w.heap[k]? :=by
 unfold World.freeze;split
 ·rfl
 ·simp[Array.getElem?_modify,Ne.symm h]
theorem B0k(w:World)(a:Addr)(n:Nat):(w.freeze a n).heap.size=w.heap.size:=by
 unfold World.freeze;split
 ·rfl
 ·exact Array.size_modify
theorem A8j(w:World)(a:Addr)(n k:Nat):(w.freeze a n).shape? k=w.shape? k:=by
 unfold World.freeze;split
 ·rfl
 ·unfold World.shape?;simp only[Array.getElem?_modify];by_cases h:a.block=k
  ·rw[if_pos h];cases hk:w.heap[k]? with
   |none=>rfl
   |some o=>cases o<;>rfl
  ·rw[if_neg h]
theorem B0l{Q}(b c:Nat)(bs:List UInt8)(H:Heap)(j:BldOk H b (some c) bs)(h:Q (.str (S bs)) H):D7 69 [.box b 0] (K6 H b (some c) bs) Q:=by
 refine⟨by kernel_rfl,fun w vs hl hr hs=>?_⟩;obtain⟨a,rfl,G⟩:=A1m hl hr;have I:a= .pointer (some ⟨b,0,none⟩):=by cases G;rfl
 rw[I];obtain⟨p,v,J,z,T,hp,r,hst⟩:=B3L hs j;obtain⟨L,u,A⟩:=j.hs c rfl;obtain⟨g,cap,d,rfl,_,e2,e3,M,e5,O⟩: ∃g cap d,v= .slice (some ⟨g,0,none⟩) bs.length cap∧0≤g∧w.heap[g]? =some (.cells d 5 (0,0))∧bs.length≤cap∧cap≤maxLen∧d.size=cap*1∧d.toList.take (bs.length*1)=bs.map fun x=>Value.int .u8 x.toNat:=by
  rcases r.2 with⟨hv,_⟩|hv
  ·rw[hv]at hst;cases hst
  ·exact hv
 have C:g=c:=by simpa [Value.ownBlock]using hst
 subst C;refine(A6m b g cap p d bs J w A z e2 e3 M (by omega) (by simpa using O)).mono ?_;rintro e w' ⟨rfl,rfl⟩;have m: ∀k,k≠g→(w.drew.freeze ⟨g,0,none⟩ bs.length).heap[k]? =w.heap[k]? :=fun k hk=>by rw[A4O hk];rfl
 have q:Ext (K6 H b (some g) bs) w (w.drew.freeze ⟨g,0,none⟩ bs.length):=by
  refine⟨by unfold World.freeze;split<;>rfl,by unfold World.freeze;split<;>rfl,by unfold World.freeze;split<;>rfl,by rw[B0k];exact C99 _,fun k hk hn=>m k (fun e=>(A2T j hn).2 (by rw[e])),fun k hk=>?_⟩;rw[A8j];rfl
 have y:H.Le (K6 H b (some g) bs):=fun k o ho=>by
  rw[T4 (fun e=>by rw[e,j.hb]at ho;cases ho) (fun e=>by rw[←Option.some.inj e,u]at ho;cases ho)];exact ho
 have i:From w (K6 H b (some g) bs) H:=fun k hk hn=>y.held hn;refine⟨_,rfl,.str (S bs),H,.str _,fun k o ho=>?_,q,i,h⟩;have h1:=y k o ho;refine(hs k o h1).mono q i (m k fun e=>?_);rw[e,u]at ho;cases ho
end Go.Proofs.YtibphjonmikciaaGreatDoor
namespace Go.Proofs.YtibphjonmikciaaGreatDoor
open Go Go.Av
attribute [local irreducible] ACalls W4
theorem A3g{H:Heap}{b d:Nat}{st:Option Nat}{bs:List UInt8}{o:Av.Obj}(h:K6 H b st bs d=none)(g:BldOk H b st bs):(K6 H b st bs).set d o=K6 (H.set d o) b st bs∧BldOk (H.set d o) b st bs∧H d=none:=by
 have h1:d≠b:=by
  rintro rfl;obtain⟨cs,e⟩:=B7N g;rw[h]at e;cases e
 have i:st≠some d:=by
  rintro rfl;have e:K6 H b (some d) bs d=some (.buf 5 bs):=by simp[K6,Heap.set]
  rw[h]at e;cases e
 rw[T4 h1 i]at h;refine⟨?_,⟨by rw[A3 _ (Ne.symm h1)];exact g.hb,g.hn,fun c e=>?_⟩,h⟩
 ·funext k
  cases st with
  |none=>
   simp only[K6,Heap.set];by_cases e1:k=d
   ·subst e1;simp[h1]
   ·simp[e1]
  |some c=>
   have j:d≠c:=fun e=>i (by rw[e]);simp only[K6,Heap.set];by_cases e1:k=d
   ·subst e1;simp[h1,j]
   ·simp[e1]
 ·obtain⟨m,p,q⟩:=g.hs c e;exact⟨m,by rw[A3 _ (fun e'=>i (by rw[e,e']))];exact p,q⟩
theorem A5H{H H':Heap}{b:Nat}{st:Option Nat}{bs:List UInt8}(h:H.Le H'):(K6 H b st bs).Le (K6 H' b st bs):=by
 intro k o hk;cases st with
 |none=>
  simp only[K6,Heap.set]at hk⊢;split
  ·rename_i e;rw[if_pos e]at hk;exact hk
  ·rename_i e;rw[if_neg e]at hk;exact h k o hk
 |some c=>
  simp only[K6,Heap.set]at hk⊢;split
  ·rename_i e;rw[if_pos e]at hk;exact hk
  ·rename_i e;rw[if_neg e]at hk;split
   ·rename_i e;rw[if_pos e]at hk;exact hk
   ·rename_i e;rw[if_neg e]at hk;exact h k o hk
theorem BldOk.less{H H':Heap}{b:Nat}{st:Option Nat}{bs:List UInt8}(h:BldOk H' b st bs)(hl:H.Le H'):BldOk H b st bs:=⟨hl.none h.hb,h.hn,fun c e=>⟨(h.hs c e).1,hl.none (h.hs c e).2.1,(h.hs c e).2.2⟩⟩
theorem A2U{H:Heap}{b:Nat}{st:Option Nat}{bs:List UInt8}(h:BldOk H b st bs):H.Le (K6 H b st bs):=fun k o ho=>by
 rw[T4 (fun e=>by rw[e,h.hb]at ho;cases ho) (fun e=>by rw[(h.hs k e).2.1]at ho;cases ho)];exact ho
end Go.Proofs.YtibphjonmikciaaGreatDoor
namespace Go.Fo
open Go Go.Av Go.Lexs Go.Lin
theorem B4Y(b:Bool)(t:LTm)(h1:H9 (B t.v)=true)(d:t.c.natAbs≤1048576):(S8 b t).length≤230:=by
 have:=A48 18 t.c.natAbs (by omega);have hn:=A2x h1;have hb:=Y7 t.v;unfold S8;simp only[C9v];have e1:(if t.c<0 then [45]else if b=true then([]:List UInt8)else [43]).length≤1:=by split;simp;split<;>simp
 have e2:(if t.c.natAbs=1 then([]:List UInt8)else dec t.c.natAbs++[42]).length≤20:=by
  split
  ·simp
  ·simp only[C9v,C9u,C9w];omega
 omega
theorem B13: ∀(l:List LTm) (b:Bool),(∀t∈l,H9 (B t.v)=true∧t.c.natAbs≤1048576)→(L0 b l).length≤230*l.length:=by
 intro l
 induction l with
 |nil=>intro b _;simp[L0]
 |cons t l d=>
  intro b h;rw[L0,C9v,C9u];have:=B4Y b t (h t (C90 ..)).1 (h t (C90 ..)).2;have:=d false fun x hx=>h x (C97 _ hx);omega
theorem B4Z{l:LinV}(h:validL l=true):(F2 l).length≤230*l.t.length+30:=by
 have ok:=L9 h;have h1:=B13 l.t true fun t d=>⟨(M7 ok.t t d).1,(M7 ok.t t d).2.2⟩
 have hk:=ok.k;have:=A48 18 l.k.natAbs (by omega);have e1:(Q9 l).length≤20:=by
  unfold Q9 z8;split
  ·have e1:(if l.k<0 then [45]else if l.t.isEmpty=true then([]:List UInt8)else [43]).length≤1:=by split;simp;split<;>simp
   rw[C9v];omega
  ·simp
 have e2:(if l.e=true then([61,48]:List UInt8)else [62,61,48]).length≤3:=by split<;>simp
 unfold F2 L7;rw[C9v,C9v];omega
theorem A6Q: ∀(f:Fm),G8 D5 f=true→(D8 f).length+2≤400*K9 f:=by
 intro f
 induction f using P2 with
 |h o n l s ks e=>
  intro i;have hk: ∀k∈ks,G8 D5 k=true:=fun k hk=>N8 (f:=.mk o n l s ks) i hk;have key: ∀(m:List Fm) (b:Bool),(∀k∈m,(D8 k).length+2≤400*K9 k)→(D8.textK b m).length≤400*K9.wtL m:=by
   intro m
   induction m with
   |nil=>intro b _;simp[D8.textK]
   |cons g j d=>
    intro b hm;have p:=hm g (C90 ..);have q:=d false fun k h=>hm k (C97 _ h);have r:(if b=true then([]:List UInt8)else [44,32]).length≤2:=by split<;>simp
    rw[O6,K9.wtL,C9v,C9v];omega
  have u:=key ks true fun k hm=>e k hm (hk k hm);have hw:K9 (.mk o n l s ks)=1+l.t.length+K9.wtL ks:=L2 _;rw[hw];cases Q4 i with
  |con n h=>rw[B27 rfl];split<;>(simp only[A0v,flsB,C9u,C9w];omega)
  |lin l h hp=>rw[B28 rfl];have:=B4Z h;simp only[Fm.l];omega
  |var s h=>
   rw[B29 rfl];have:=A2x (A6E h);have:=Y7 s;simp only[Fm.s,C9u];omega
  |not k=>rw[B3A rfl rfl];have:=e k (C90 ..) (hk k (C90 ..));simp only[K9.wtL,C9u];omega
  |and ks=>rw[A4k (by simp[Fm.op]) (by simp[Fm.op]) (by simp[Fm.op]) (by simp[Fm.op])];simp only[Fm.ks,C9u,C9v,C9w];omega
  |or ks=>rw[A4k (by simp[Fm.op]) (by simp[Fm.op]) (by simp[Fm.op]) (by simp[Fm.op])];simp only[Fm.ks,C9u,C9v,C9w];omega
theorem A6R(ks:List Fm)(i:Nat)(hk: ∀k∈ks,G8 D5 k=true):(D8.textK true (ks.take i)).length≤400*K9.wtL (ks.take i):=by
 have key: ∀(m:List Fm) (b:Bool),(∀k∈m,G8 D5 k=true)→(D8.textK b m).length≤400*K9.wtL m:=by
  intro m
  induction m with
  |nil=>intro b _;simp[D8.textK]
  |cons g e d=>
   intro b hm;have j:=A6Q g (hm g (C90 ..));have o:=d false fun k h=>hm k (C97 _ h);have p:(if b=true then([]:List UInt8)else [44,32]).length≤2:=by split<;>simp
   rw[O6,K9.wtL,C9v,C9v];omega
 exact key _ true fun k h=>hk k (List.mem_of_mem_take h)
theorem node_or{f:Fm}(d:G8 D5 f=true):(∃m,(m=0∨m=1)∧f= .mk 1 m nilL D1 [])∨(∃l,validL l=true∧(∀t∈l.t,plainB t.v=true)∧f= .mk 2 0 l D1 [])∨(∃s,plainB s=true∧f= .mk 3 0 nilL s [])∨(∃k,f= .mk 4 0 nilL D1 [k])∨∃o ks,(o=5∨o=6)∧f= .mk o 0 nilL D1 ks:=by
 cases Q4 d with
 |con n h=>exact .inl ⟨n,h,rfl⟩
 |lin l h hp=>exact .inr (.inl ⟨l,h,hp,rfl⟩)
 |var s h=>exact .inr (.inr (.inl ⟨s,h,rfl⟩))
 |not k=>exact .inr (.inr (.inr (.inl ⟨k,rfl⟩)))
 |and ks=>exact .inr (.inr (.inr (.inr ⟨5,ks,.inl rfl,rfl⟩)))
 |or ks=>exact .inr (.inr (.inr (.inr ⟨6,ks,.inr rfl,rfl⟩)))
theorem A0O(l:List Fm)(i:Nat)(h:i<l.length):K9.wtL (l.take i)+K9 l[i]≤K9.wtL l:=by
 have:=B2l (l.take i) (l.drop i);rw[List.take_append_drop]at this;have:=B57 l i h;omega
end Go.Fo
namespace Go.Proofs.YtibphjonmikciaaGreatDoor
open Go Go.Av Go.Lexs Go.Lin Go.Fo
attribute [local irreducible] ACalls W4
set_option maxHeartbeats 4000000 in
theorem B9n(n:Nat): ∀{Q} (f:Fm) (hn:SizeOf.sizeOf f≤n) (hf:G8 D5 f=true) (fa:FmFit f) (b:Nat) (st:Option Nat) (bs:List UInt8) (hl:bs.length+400*K9 f≤140737488355328) (H:Heap) (hT:Tabs H) (a5:BldOk H b st bs)
    (h: ∀c',BldOk H b (some c') (bs++D8 f)→Q (.tuple []) (K6 H b (some c') (bs++D8 f))),D7 68 [.box b 0,.agg (C0 f)] (K6 H b st bs) Q:=by
  induction n with
  |zero=>intro Q f hn;cases f;simp at hn
  |succ n ih=>
  intro Q f hn hf fa b st bs hl H hT a5 h;refine A8 [] A5 Tryz.func68 rfl ?_;simp only[go_sem,seval,Tryz.results68];intro b3 g3;have q:=A6Q f hf;have a6:=fa.kl;obtain⟨e3,j,b7⟩:=A3g (o:=.box (C0 f)) g3 a5;rw[e3];have c3:(H.set b3 (.box (C0 f))) b3=some (.box (C0 f)):=A2 _ _;have J:H.Le (H.set b3 (.box (C0 f))):=A0 b7;have z:=hT.le J;generalize H.set b3 (.box (C0 f))=Bs at j c3 J z⊢;have d3: ∀{a9 b0},BldOk Bs b a9 b0→K6 Bs b a9 b0 b3=some (.box (C0 f)):=fun hk=>A2U hk _ _ c3;have p3:=d3 j;have done: ∀c':Nat,BldOk Bs b (some c') (bs++D8 f)→Fin Q (.tuple []) (K6 Bs b (some c') (bs++D8 f)):=fun c' hk=>D1H (A5H J) (h c' (hk.less J));rcases node_or hf with⟨m,hm,rfl⟩|⟨l,hv,hp,rfl⟩|⟨s,hp,rfl⟩|⟨k,rfl⟩|⟨o,ks,ho,rfl⟩
  · rw[B27 rfl]at done q
    simp only[Fm.n]at done q;have z1:(⟨#[116,114,117,101]⟩:ByteArray).size=4:=rfl;have z0:(⟨#[102,97,108,115,101]⟩:ByteArray).size=5:=rfl;rcases hm with rfl|rfl
    all_goals
      (repeat' (first|with_reducible apply C9p|simp only[go_sem,seval,p3]|simp(disch:=first|omega|grind) only[B9]|intro r|omega)
       rename_i x;have hx:=r;clear r;obtain⟨e5,A,b9⟩:=A3g (o:=.vec 1 [[.str ⟨#[102,97,108,115,101]⟩],[.str ⟨#[116,114,117,101]⟩]]) hx j;have C:=A0 (o:=.vec 1 [[.str ⟨#[102,97,108,115,101]⟩],[.str ⟨#[116,114,117,101]⟩]]) b9;have q3:K6 (Bs.set x (.vec 1 [[.str ⟨#[102,97,108,115,101]⟩],[.str ⟨#[116,114,117,101]⟩]])) b st bs b3=_:=A2U A _ _ (C _ _ c3);have qx:K6 (Bs.set x (.vec 1 [[.str ⟨#[102,97,108,115,101]⟩],[.str ⟨#[116,114,117,101]⟩]])) b st bs x=some (.vec 1 [[.str ⟨#[102,97,108,115,101]⟩],[.str ⟨#[116,114,117,101]⟩]]):=A2U A _ _ (A2 _ _);rw[e5];repeat' (first|with_reducible apply C9p|simp only[go_sem,seval,q3,qx]|simp(disch:=omega) only[A4,A9,A1y,D0,A0O]|simp(disch:=first|omega|grind) only[B9]|intro r|omega)
       refine N4 b st bs _ _ A ?_ ?_ fun c' d=>?_
       · decide
       · simp only[z1,z0];omega
       repeat' simp only[go_sem,seval]
       exact Fin.then (A5H C) (done c' (d.less C)))
  · rw[B28 rfl]at done q
    simp only[Fm.l]at done q;have hlen:(S (F2 l)).size=(F2 l).length:=O1 _;have d0:(F2 l).length≠0:=fun e=>B1r l (D0D e);have tx:=fun(Q:D→Heap→Prop) (H:Heap) (hT:Tabs H)=>B6i (Q:=Q) l fa.lin H hT;simp only[hv,if_true]at tx;repeat' (first|with_reducible apply C9p|simp only[go_sem,seval,p3]|with_reducible refine tx _ _ (z.le (A2U j)) ?_)
    refine N4 b st bs (S (F2 l)) _ j (by omega) (by omega) fun c' d=>?_;rw[l9]at d⊢;repeat' simp only[go_sem,seval]
    exact done c' d
  · rw[B29 rfl]at done q
    simp only[Fm.s]at done q;have hlen:(⟨#[63]⟩++s:ByteArray).size=1+s.size:=by rw[ByteArray.size_append];rfl
    have hB:B (⟨#[63]⟩++s:ByteArray)=63::B s:=by rw[u0];rfl
    have d2:=Y7 s;simp only[C9u]at q;repeat' (first|with_reducible apply C9p|simp only[go_sem,seval,p3]|omega)
    refine N4 b st bs (⟨#[63]⟩++s) _ j (by omega) (by omega) fun c' d=>?_;rw[hB]at d⊢;repeat' simp only[go_sem,seval]
    exact done c' d
  · rw[B3A rfl rfl]at done q
    have r0:(Rw C0 [k]).getD 0 []=C0 k:=rfl;have hsz:SizeOf.sizeOf k<SizeOf.sizeOf (Fm.mk 4 0 nilL D1 [k]):=A0N (f:=.mk 4 0 nilL D1 [k]) (C90 ..);have hw:K9 (.mk 4 0 nilL D1 [k])=1+K9 k:=by rw[L2];simp[Fm.l,Fm.ks,nilL,K9.wtL]
    rw[hw]at hl;repeat' (first|with_reducible apply C9p|simp only[go_sem,seval,p3])
    refine N4 b st bs ⟨#[33]⟩ _ j (by decide) (by show _+1≤_;omega) fun c' d=>?_;have hB:B (⟨#[33]⟩:ByteArray)= [33]:=rfl;rw[hB]at d⊢;have q3:=d3 d;repeat' (first|with_reducible apply C9p|simp only[go_sem,seval,q3,r0]|omega)
    all_goals first
      |decide
      |omega
      |skip
    refine ih k (by omega) (N8 hf (C90 ..)) (fa.kid (C90 ..)) b (some c') (bs++[33]) (by rw[C9v,C9x];omega) _ z d fun c7 O=>?_;have he:bs++[33]++D8 k=bs++33::D8 k:=by simp
    rw[he]at O⊢;repeat' simp only[go_sem,seval]
    exact done c7 O
  · have L: ∀k∈ks,G8 D5 k=true:=fun k hk=>N8 (f:=.mk o 0 nilL D1 ks) hf hk
    have b1: ∀k∈ks,FmFit k:=fun k hk=>fa.kid hk;have a6:ks.length≤1466015503658:=a6;have hw:K9 (.mk o 0 nilL D1 ks)=1+K9.wtL ks:=by rw[L2];simp[Fm.l,Fm.ks,nilL]
    rw[hw]at hl;have b2:B (⟨#[41]⟩:ByteArray)= [41]:=rfl;have b4:B (⟨#[44,32]⟩:ByteArray)= [44,32]:=rfl;have hsz: ∀k∈ks,SizeOf.sizeOf k<SizeOf.sizeOf (Fm.mk o 0 nilL D1 ks):=fun k hk=>A0N (f:=.mk o 0 nilL D1 ks) hk;obtain⟨T,G⟩: ∃T:ByteArray,T=if o=6 then⟨#[124,40]⟩else⟨#[38,40]⟩:=⟨_,rfl⟩
    have c0:D8 (.mk o 0 nilL D1 ks)=B T++(D8.textK true ks++[41]):=by
      rcases ho with rfl|rfl
      · rw[A4k (by simp[Fm.op]) (by simp[Fm.op]) (by simp[Fm.op]) (by simp[Fm.op]),G];rfl
      · rw[A4k (by simp[Fm.op]) (by simp[Fm.op]) (by simp[Fm.op]) (by simp[Fm.op]),G];rfl
    rw[c0]at done q;have c4:T.size=2:=by rw[G];split<;>rfl
    have d4:=Y7 T;rcases ho with rfl|rfl
    all_goals
      (simp only[Int.reduceEq,if_true,if_false]at G
       repeat' (first|with_reducible apply C9p|simp only[go_sem,seval,p3,←G])
       refine N4 b st bs T _ j (by omega) (by omega) fun c' d=>?_;have q3:=d3 d;repeat' simp only[go_sem,seval,q3]
       obtain⟨X0,U⟩: ∃X0,X0=bs++B T:=⟨_,rfl⟩
       rw[←U]at d q3⊢;have c5:X0.length=bs.length+2:=by rw[U,C9v];omega
       refine C9 [0,18,19] (fun(y:Nat×Nat×List UInt8)=>[(20,.int .i64 y.1)]) (fun(y:Nat×Nat×List UInt8)=>K6 Bs b (some y.2.1) y.2.2) (fun(y:Nat×Nat×List UInt8)=>y.1≤ks.length∧BldOk Bs b (some y.2.1) y.2.2∧y.2.2=X0++D8.textK true (ks.take y.1)) (fun(y:Nat×Nat×List UInt8)=>ks.length-y.1) ((0,c',X0)) (⟨D0A _,d,by simp[D8.textK]⟩) (by(try simp only[go_sem,seval])<;>(try simp(disch:=omega) [A4])) (by first|exact D1G _|exact A0 (by assumption)|exact B2 (by assumption)|simp only[Heap.Le,Heap.set,Heap.del]at* <;>grind) ?_;rintro Ec rfl ⟨i,c,X⟩ ⟨q1,q2,q4⟩;simp only at q1 q2 q4
       have c1:X.length≤bs.length+2+400*K9.wtL (ks.take i):=by
         have:=A6R ks i L;rw[q4,C9v];omega
       by_cases u:i<ks.length
       · have M:decide ((i:Int)<ks.length)=true:=C9r (by omega)
         have b6:(i:Int)<ks.length:=by omega
         have hm:=C93 u;have d5:=A0O ks i u;have c6:=A6Q ks[i] (L _ hm);by_cases h0:i=0
         · have hg:decide ((0:Int)<i)=false:=C9s (by omega)
           have V: ¬(0:Int)<i:=by omega
           repeat' (first|with_reducible apply C9p|simp only[go_sem,seval,M,b6,hg,V,A9 _ _ u,C1 _ _ u]|intro r|omega)
           rename_i W;have Y:=r;clear r;obtain⟨e8,I,a0⟩:=A3g (o:=.box (C0 ks[i])) Y q2;have p:Bs.Le (Bs.set W (.box (C0 ks[i]))):=A0 a0;have c8:(Bs.set W (.box (C0 ks[i]))) W=some (.box (C0 ks[i])):=A2 _ _;rw[e8];refine ih ks[i] (by have:=hsz _ hm;omega) (L _ hm) (b1 _ hm) b (some c) X (by omega) _ (z.le p) I fun c9 g=>?_;repeat' (first|simp only[go_sem,seval]|simp(disch:=omega) only[A4,A9,A1y,D0,A0O])
           exact C2 (i+1,c9,X++D8 ks[i]) ⟨by simp only[];omega,g.less p,by simp only[];rw[q4,A1y _ _ u,if_pos h0];simp⟩ (by simp only[];omega) (by(try simp only[go_sem,seval])<;>(try simp(disch:=omega) [A4])) (A5H p)
         · have hg:decide ((0:Int)<i)=true:=C9r (by omega)
           have V:(0:Int)<i:=by omega
           repeat' (first|with_reducible apply C9p|simp only[go_sem,seval,M,b6,hg,V,A9 _ _ u,C1 _ _ u]|intro r|omega)
           rename_i W;have Y:=r;clear r;obtain⟨e8,I,a0⟩:=A3g (o:=.box (C0 ks[i])) Y q2;have p:Bs.Le (Bs.set W (.box (C0 ks[i]))):=A0 a0;have c8:(Bs.set W (.box (C0 ks[i]))) W=some (.box (C0 ks[i])):=A2 _ _;rw[e8];refine N4 b (some c) X ⟨#[44,32]⟩ _ I (by decide) (by show _+2≤_;omega) fun c9 g=>?_;rw[b4]at g⊢;have d8:=A2U g _ _ c8;repeat' simp only[go_sem,seval,d8]
           refine ih ks[i] (by have:=hsz _ hm;omega) (L _ hm) (b1 _ hm) b (some c9) (X++[44,32]) (by rw[C9v];simp only[C9u,C9w];omega) _ (z.le p) g fun c2 a4=>?_;repeat' (first|simp only[go_sem,seval]|simp(disch:=omega) only[A4,A9,A1y,D0,A0O])
           exact C2 (i+1,c2,X++[44,32]++D8 ks[i]) ⟨by simp only[];omega,a4.less p,by simp only[];rw[q4,A1y _ _ u,if_neg h0];simp⟩ (by simp only[];omega) (by(try simp only[go_sem,seval])<;>(try simp(disch:=omega) [A4])) (A5H p)
       · have M:decide ((i:Int)<ks.length)=false:=C9s (by omega)
         rw[C94 (by omega)]at q4 c1;repeat' simp only[go_sem,seval,M]
         refine N4 b (some c) X ⟨#[41]⟩ _ q2 (by decide) (by show _+1≤_;omega) fun c9 g=>?_;rw[b2]at g⊢;have he:X++[41]=bs++(B T++(D8.textK true ks++[41])):=by rw[q4,U];simp only[D0d]
         rw[he]at g⊢;repeat' simp only[go_sem,seval]
         exact done c9 g)
theorem A8k{Q}(f:Fm)(u:FmFit f)(x:VOk f)(H:Heap)(y:Tabs H)(h:Q (.tuple [.str (if E5 f=true then S (D8 f)else S []),.int .i64 (if E5 f=true then 0 else 2)]) H):D7 27 [.agg (C0 f)] H Q:=by
 refine A8 [] A5 Tryz.func27 rfl ?_;simp only[go_sem,seval,Tryz.results27];intro o z;have e1:(H.set o (.box (C0 f))) o=some (.box (C0 f)):=A2 _ _;have d:H.Le (H.set o (.box (C0 f))):=A0 z;generalize H.set o (.box (C0 f))=Bs at e1 d⊢;have q:=y.le d;have p:=fun(Q:D→Heap→Prop) (H:Heap)=>Q5 (Q:=Q) f u x H;cases hv:E5 f with
 |false=>
  rw[hv]at h p;simp only[C95,if_false]at h;repeat' (first|simp only[go_sem,seval,e1]|with_reducible refine p _ _ ?_)
  exact D1H d h
 |true=>
  rw[hv]at h p;simp only[if_true]at h;have A:=A6H hv;repeat' (first|simp only[go_sem,seval,e1]|simp(disch:=first|omega|grind) only[B9]|intro i|with_reducible refine p _ _ ?_)
  rename_i j;have C:=i;clear i;have m:BldOk Bs j none []:=⟨C,fun _=>rfl,fun c e=>by cases e⟩
  have r:Bs.set j (.box [.nilp,.nilsl] (some 97))=K6 Bs j none []:=rfl;rw[r];have d1:=A2U m _ _ e1;repeat' (first|with_reducible apply C9p|simp only[go_sem,seval,d1]|simp(disch:=omega) only[D0]|simp(disch:=first|omega|grind) only[B9]|intro i|omega)
  refine B9n _ f (C99 _) (L5 hv) u j none [] (by simp only[C9w];omega) _ q m fun c' g=>?_;rw[D01]at g⊢;repeat' (first|simp only[go_sem,seval]|with_reducible refine B0l j c' (D8 f) _ g ?_)
  exact D1H d h
end Go.Proofs.YtibphjonmikciaaGreatDoor
namespace Go.Fo
open Go Go.Av Go.Lexs Go.Lin
theorem RdS.out{H d G:Heap}{br sz:Nat}{es:List (List D)}{ob:Option Nat}{r:List UInt8}{bad:Bool}{rd:List D}(h:RdS H d br r bad)(g:G br=none)(hb:H br=some (.box rd))(q:OutIn G sz es ob H):OutIn G sz es ob d:=by
 refine⟨h.le q.1 g,?_,q.2.2⟩;cases ob with
 |none=>exact q.2.1
 |some c=>
  have hc:H c=some (.vec sz es):=q.2.1;exact h.keep hc fun e=>by rw[e,hb]at hc;cases hc
theorem B7O{G d:Heap}{br x h sz:Nat}{ob:Option Nat}{es:List (List D)}{c rd:List D}{o:Av.Obj}(q:OutIn G sz es ob d)(g:d br=some (.box rd))(hx:d x=none)(r:G h=none)(i:K7 (d.set x o) ob h=none):
  ((K7 (d.set x o) ob).set h (.vec sz (es++[c]))) br=some (.box rd)∧OutIn G sz (es++[c]) (some h) ((K7 (d.set x o) ob).set h (.vec sz (es++[c]))):=by
 have u:=q.set hx o;have j:br≠x:=fun e=>by rw[←e,g]at hx;cases hx
 have h1:K7 (d.set x o) ob br=some (.box rd):=by
  cases ob with
  |none=>show (d.set x o) br=_;rw[A3 _ j];exact g
  |some c=>
   have hc:d c=some (.vec sz es):=q.2.1;have:br≠c:=fun e=>by rw[←e,g]at hc;cases hc
   show (Heap.del _ c) br=_;rw[F0 this,A3 _ j];exact g
 have m:br≠h:=fun e=>by rw[←e,h1]at i;cases i
 refine⟨by rw[A3 _ m];exact h1,fun k p hk=>?_,A2 _ _,fun b e=>by cases e;exact r⟩;have:k≠h:=fun e=>by rw[e,r]at hk;cases hk
 rw[A3 _ this];exact u.le k p hk
theorem B0m{H Hp:Heap}{br sz:Nat}{es:List (List D)}{ob:Option Nat}{r:List UInt8}{bad:Bool}(q:OutIn (H.del br) sz es ob Hp)(h:Hp br=some (.box [.str (S r),.bool bad])):(H.set br (.box [.str (S r),.bool bad])).Le (K7 Hp ob):=fun k o hk=>by
 by_cases e:k=br
 ·subst e;rw[A2]at hk;cases ob with
  |none=>show Hp k=_;rw[h];exact hk
  |some c=>
   have hc:Hp c=some (.vec sz es):=q.2.1;have:k≠c:=fun e=>by rw[←e,h]at hc;cases hc
   show (Heap.del _ c) k=_;rw[F0 this,h];exact hk
 ·rw[A3 _ e]at hk;exact q.le k o (by rw[F0 e];exact hk)
theorem B4a{H Hp:Heap}{br sz:Nat}{es:List (List D)}{ob:Option Nat}{r:List UInt8}{bad:Bool}(q:OutIn (H.del br) sz es ob Hp)(h:Hp br=some (.box [.str (S r),.bool bad])):(H.set br (.box [.str (S r),.bool bad])).Le Hp:=(B0m q h).trans (B8j _ _)
end Go.Fo
namespace Go.Proofs.YtibphjonmikciaaGreatDoor
open Go Go.Av Go.Lexs Go.Lin Go.Fo
attribute [local irreducible] ACalls W4
theorem Tabs.hro{H H':Heap}(d:Tabs H)(h: ∀k cs,H k=some (.ro cs)→H' k=some (.ro cs)):Tabs H':=⟨h _ _ d.pow,let ⟨t,e⟩:=d.syn;⟨t,h _ _ e⟩,let ⟨t,e⟩:=d.rng;⟨t,h _ _ e⟩⟩
theorem Tabs.rd{H Hp:Heap}{br:Nat}{rd:List D}(g:Tabs H)(hb:H br=some (.box rd))(d:(H.del br).Le Hp):Tabs Hp:=g.hro fun k cs hk=>d k _ (by
 have h:k≠br:=fun e=>by rw[e,hb]at hk;cases hk
 rw[F0 h];exact hk)
def A7d(e:Nat):Prop:=∀(Q:D→Heap→Prop) (br:Nat) (r:List UInt8),r.length≤20000→(∀k,A6L (r.drop k))→∀(H:Heap),Tabs H→H br=some (.box [.str (S r),.bool false])→(∀H',RdS H H' br (G2 e r).2.1 (G2 e r).2.2→Q (.agg (C0 (G2 e r).1)) H')→D7 71 [.box br 0,.int .i64 (61-e)] H Q
theorem A2V{r:List UInt8}(hx: ∀k,A6L (r.drop k))(j:Nat): ∀k,A6L ((r.drop j).drop k):=fun k=>by rw[D0z];exact hx _
set_option maxHeartbeats 4000000 in
theorem B7P(e:Nat)(he:e≤60)(hF:A7d e){Q}(br:Nat)(q:List UInt8)(b0:q.length≤20000)(b2: ∀k,A6L (q.drop k))(H:Heap)(hT:Tabs H)(hb:H br=some (.box [.str (S q),.bool false]))
  (X: ∀r,r.length≤20000→∃j,(G2 e r).2.1=r.drop j)
  (h: ∀H',RdS H H' br (W9 (G2 e) q).2.1 (W9 (G2 e) q).2.2→Q (.sl 7 (Rw C0 (W9 (G2 e) q).1)) H'):D7 119 [.box br 0,.int .i64 (61-e)] H Q:=by
 refine A8 [] A5 Tryz.func119 rfl ?_;simp only[go_sem,seval,Tryz.results119];have i:B (⟨#[41]⟩:ByteArray)= [41]:=rfl;have C:B (⟨#[44,32]⟩:ByteArray)= [44,32]:=rfl;have G:(⟨#[41]⟩:ByteArray).size=1:=rfl;have Y:(⟨#[44,32]⟩:ByteArray).size=2:=rfl;refine A22 br ⟨#[41]⟩ q false H hb fun H1 I=>?_;rw[i,G]at I;unfold W9 at h;rw[i];cases hp:pre [41] q with
 |true=>
  rw[hp]at h I;simp only[if_true]at h I;repeat' simp only[go_sem,seval]
  exact E3 (.nil 7) (D1K (h _ I))
 |false=>
  rw[hp]at h I;simp only[C95,if_false]at h I;obtain⟨fin,J⟩: ∃fin,fin=A0w (G2 e) (q.length+1) q []:=⟨_,rfl⟩
  rw[←J]at h;repeat' simp only[go_sem,seval]
  refine C9 [0,1] (fun(p:(List UInt8×List Fm×Bool)×Option Nat×Heap)=>[(5,J1 7 p.1.2.1.length p.2.1)]) (fun(p:(List UInt8×List Fm×Bool)×Option Nat×Heap)=>p.2.2) (fun(p:(List UInt8×List Fm×Bool)×Option Nat×Heap)=>p.2.2 br=some (.box [.str (S p.1.1),.bool p.1.2.2])∧OutIn (H.del br) 7 (Rw C0 p.1.2.1) p.2.1 p.2.2∧(∃j,p.1.1=q.drop j)∧(p.1.2.2=true→fin=([],p.1.1,true))∧(p.1.2.2=false→p.1.2.1.length+p.1.1.length≤20000∧∃n,p.1.1.length+1≤n∧A0w (G2 e) n p.1.1 p.1.2.1=fin)) (fun(p:(List UInt8×List Fm×Bool)×Option Nat×Heap)=>(if p.1.2.2=true then 0 else p.1.1.length+1)) (((q,[],false),none,H1)) (⟨I.here,⟨fun k o hk=>by
    have k1:k≠br:=fun e=>by rw[e]at hk;simp[Heap.del]at hk
    show H1 k=some o;rw[I.els k k1];rw[F0 k1]at hk;exact hk,rfl,fun _ e=>(by cases e)⟩,⟨0,rfl⟩,fun e=>(by cases e),fun _=>⟨by simpa using b0,_,C99 _,J.symm⟩⟩) (by simp only[go_sem,seval]) (by first|exact D1G _|exact A0 (by assumption)|exact B2 (by assumption)|simp only[Heap.Le,Heap.set,Heap.del]at* <;>grind) ?_
  rintro Ec rfl ⟨⟨r,out,bad⟩,ob,Hp⟩ ⟨W,q2,⟨j,q3⟩,q4,q5⟩;simp only at W q2 q3 q4 q5;cases bad with
  |true=>
   rw[q4 rfl]at h;repeat' simp only[go_sem,seval,W]
   exact E3 (.nil 7) (D1H (B4a q2 W) (h _ (RdS.set _ _ _ _)))
  |false=>
   obtain⟨c2,n,hn,hl⟩:=q5 rfl;obtain⟨n,rfl⟩: ∃m,n=m+1:=⟨n-1,by omega⟩
   rw[A0w]at hl;have L:r.length≤20000:=by omega
   obtain⟨hsz,_⟩:=B0i e r L;obtain⟨j2,M⟩:=X r L;have b3:Tabs Hp:=hT.rd hb q2.1;have b4: ∀k,A6L (r.drop k):=by rw[q3];exact A2V b2 j
   have hG:(H.del br) br=none:=by simp[Heap.del]
   repeat' simp only[go_sem,seval,W]
   refine hF _ br r L b4 Hp b3 W fun H2 s2=>?_;obtain⟨⟨f1,y,b1⟩,b6⟩: ∃x,x=G2 e r:=⟨_,rfl⟩
   rw[←b6]at hl s2 hsz M⊢;simp only at hl s2 hsz M;have a0:=s2.out hG W q2;have b7:=s2.here;repeat' (first|simp only[go_sem,seval]|intro a4)
   rename_i x;have hx:=a4;clear a4;refine B5Y (a0.set hx _) (by simp) (by rw[D6]) (by simp only[C9u,C9w];omega) (by simp only[C9u,C9w];omega) fun b' b8 a5 b9=>?_;obtain⟨z,O⟩:=B7O (c:=C0 f1) a0 b7 hx b8 a5;have c0:Rw C0 out++[C0 f1]=Rw C0 (out++[f1]):=by simp[Rw]
   rw[c0]at z O⊢;clear a5 b9;generalize (K7 (H2.set x _) ob).set b' (.vec 7 (Rw C0 (out++[f1])))=Hn at z O⊢;repeat' simp only[go_sem,seval]
   refine A22 br ⟨#[41]⟩ y b1 Hn z fun H3 T=>?_;rw[i,G]at T;rw[i];have A:=T.out hG z O;have d:=T.here;cases a6:pre [41] y with
   |true=>
    rw[a6]at hl T d;simp only[if_true]at hl T d;rw[←hl]at h;repeat' simp only[go_sem,seval]
    exact Fin.out (ob:=some b') (es:=Rw C0 (out++[f1])) (by rw[D6];simp) A.2.1 (D1H (B0m A d) (h _ (RdS.set _ _ _ _)))
   |false=>
    rw[a6]at hl T d;simp only[C95,if_false]at hl T d;have u: ∃k,y=q.drop k:=⟨j+j2,by rw[M,q3,D0z]⟩
    cases b1 with
    |true=>
     simp only[if_true]at hl;repeat' simp only[go_sem,seval,d]
     refine C2 ((y,out++[f1],true),some b',H3) ⟨d,A,u,fun _=>hl.symm,fun e=>(by cases e)⟩ (by simp only[if_true,C95,if_false];omega) (by simp only[go_sem,seval,C9v,C9u,C9w]) ?_;rw[B2r d];exact D1G _
    |false=>
     simp only[C95,if_false]at hl;repeat' simp only[go_sem,seval,d]
     refine A22 br ⟨#[44,32]⟩ y false H3 d fun H4 U=>?_;rw[C,Y]at U;rw[C];have a9:=U.out hG d A;have g:=U.here;cases V:pre [44,32] y with
     |true=>
      rw[V]at hl U g;simp only[if_true]at hl U g;obtain⟨k3,u⟩:=u;have c1:=A1U V;simp only[C9u,C9w]at c1;repeat' simp only[go_sem,seval,g]
      refine C2 ((y.drop 2,out++[f1],false),some b',H4) ⟨g,a9,⟨k3+2,by rw[u,D0z]⟩,fun e=>(by cases e),fun _=>⟨by simp only[C9v,C9u,C9w,D0N];omega,n,by simp only[D0N];omega,hl⟩⟩ (by simp only[C95,if_false,D0N];omega) (by simp only[go_sem,seval,C9v,C9u,C9w]) ?_;rw[B2r g];exact D1G _
     |false=>
      rw[V]at hl U g;simp only[C95,if_false]at hl U g;repeat' simp only[go_sem,seval,g]
      exact C2 ((y,out++[f1],true),some b',H4.set br (.box [.str (S y),.bool true])) ⟨A2 _ _,(RdS.set H4 br y true).out hG g a9,u,fun _=>hl.symm,fun e=>(by cases e)⟩ (by simp only[if_true,C95,if_false];omega) (by simp only[go_sem,seval,C9v,C9u,C9w]) (D1G _)
end Go.Proofs.YtibphjonmikciaaGreatDoor
namespace Go.Fo
open Go Go.Av Go.Lexs Go.Lin
def A42(f:Fm):Bool:=G8 (fun g=>D5 g&&decide (g.ks.length≤1000)) f
theorem V9: ∀f:Fm,A42 f=true→G8 D5 f=true∧FmFit f:=by
 intro f
 induction f using P2 with
 |h o n l s ks i=>
  intro h;unfold A42 at h;rw[A2P,C92,C92]at h;obtain⟨⟨h1,d⟩,e⟩:=h;have d:=C9q d;have e:=D0Q.1 e;have d:ks.length≤1000:=d;have hk: ∀k∈ks,G8 D5 k=true∧FmFit k:=fun k hk=>i k hk (e k hk);have j:G8 D5 (.mk o n l s ks)=true:=by
   rw[A2P,C92];exact⟨h1,D0Q.2 fun k hm=>(hk k hm).1⟩
  refine⟨j,?_⟩;cases B6T h1 with
  |con n h=>exact .mk _ _ _ _ _ (by simp[W3]) (by rcases h with rfl|rfl<;>simp[W3]) A1R (by decide) (by simp) (by simp)
  |lin l h hp=>
   have ok:=L9 h;refine A1x ⟨by have:=ok.len;omega,fun t g=>?_,fun t g=>?_,?_⟩
   ·have:=A2x (M7 ok.t t g).1;omega
   ·have:=(M7 ok.t t g).2.2;unfold W3;omega
   ·have:=ok.k;unfold W3;omega
  |var s h=>exact .mk _ _ _ _ _ (by simp[W3]) (by simp[W3]) A1R (by have:=A2x (A6E h);omega) (by simp) (by simp)
  |not k=>exact R9 (by simp[W3]) (by simp) fun q hq=>(hk q hq).2
  |and ks=>exact R9 (by simp[W3]) (by omega) fun q hq=>(hk q hq).2
  |or ks=>exact R9 (by simp[W3]) (by omega) fun q hq=>(hk q hq).2
theorem C6T{P:Program}{K:Env→Heap→Prop}{E:Env}{H:Heap}{d:List (Option Nat)}{ops:List Oper}(E0:Env)(H0:Heap)(hw:A1D E0 H0 E H)(h:Av.wpOps P d K ops E0 H0):A4Z P d ops K E H (some .wk):=⟨E0,H0,hw,h⟩
theorem B4b{H0:Heap}{E j:Env}{x b sz:Nat}{es:List (List D)}{cs cs':List D}(m:Av.Sub j E)(hx:H0 x=none)(g:b≠x)(hl:cs.length=cs'.length)(o: ∀(i:Nat) d d',cs[i]? =some d→cs'[i]? =some d'→Fz x sz es d d'):
  A1D j (H0.set b (.box cs')) E ((H0.set x (.vec sz es)).set b (.box cs)):=by
 refine A4Y (b:=x) (sz:=sz) (es:=es) (by rw[A3 _ g.symm];exact A2 _ _) (B5Z m) (fun k o' ho=>?_);by_cases hk:k=b
 ·subst hk;rw[A2]at ho;cases ho;exact⟨g,_,A2 _ _,.box _ _ _ hl o⟩
 ·rw[A3 _ hk]at ho;have h:k≠x:=fun e=>by rw[e,hx]at ho;cases ho
  exact⟨h,o',by rw[A3 _ hk,A3 _ h];exact ho,.same _⟩
theorem A8l{G H:Heap}{b sz:Nat}{es:List (List D)}{ob:Option Nat}{rd:List D}(q:OutIn G sz es ob H)(d:G b=none)(hb:H b=some (.box rd))(X:Av.Obj):OutIn G sz es ob (H.set b X):=by
 refine⟨fun k o hk=>?_,?_,q.2.2⟩
 ·have:k≠b:=fun e=>by rw[e,d]at hk;cases hk
  rw[A3 _ this];exact q.1 k o hk
 ·cases ob with
  |none=>exact q.2.1
  |some c=>
   have hc:H c=some (.vec sz es):=q.2.1;have:c≠b:=fun e=>by rw[e,hb]at hc;cases hc
   show (H.set b X) c=_;rw[A3 _ this];exact hc
theorem B7Q(a b:Fm):O7 (C0 a) 0 (C0 b)=C0 b:=by rw[N3 a];exact B85 _ _ _ _ _ _ _ _
theorem A7e{G d:Heap}{i y e sz:Nat}{ob:Option Nat}{es:List (List D)}{c rd:List D}{o:Av.Obj}(q:OutIn G sz es ob d)(g:d i=some (.box rd))(j:d y=none)(m:G e=none)(h:K7 (d.set y o) ob e=none):
  ((K7 (d.set y o) ob).set e (.vec sz (es++[c]))) i=some (.box rd)∧OutIn G sz (es++[c]) (some e) ((K7 (d.set y o) ob).set e (.vec sz (es++[c]))):=B7O q g j m h
def A4l:Fm:=fxL (-1) true
theorem A11:A42 fxF=true∧A42 fxP=true∧A42 fxN=true∧A42 fxA=true∧A42 fxS=true∧A42 A4M=true∧A42 fxV=true∧A42 (A00 [fxF,normF fxP true])=true∧A42 (A00 [fxF,normF fxF true])=true∧A42 A4l=true:=by decide+kernel
theorem B0n:K9 fxF≤1000∧K9 fxP≤1000∧K9 fxN≤1000∧K9 fxA≤1000:=by decide+kernel
theorem B7R:upS (D4 fxF++C5 fxF)= [nB,nX]:=by decide+kernel
theorem A6S:C5 fxF= [nB]∧nX≠nB∧H9 (B nX)=true:=by decide+kernel
theorem C6U:nB∈I9 (C5 fxF)∧nX∉I9 (C5 fxF):=by
 rw[F9,F9,A6S.1];exact⟨by simp,by simp[A6S.2.1]⟩
theorem A8m:meetL (D4.intsL [fxF,fxP]) (C5.boolsL [fxF,fxP])=false∧(upS (D4.intsL [fxF,fxP])).length+(upS (C5.boolsL [fxF,fxP])).length≤12∧meetL (D4.intsL [fxF,fxF]) (C5.boolsL [fxF,fxF])=false∧(upS (D4.intsL [fxF,fxF])).length+(upS (C5.boolsL [fxF,fxF])).length≤12:=by decide+kernel
end Go.Fo
namespace Go.Proofs.YtibphjonmikciaaGreatDoor
open Go Go.Av Go.Lexs Go.Lin Go.Fo
attribute [local irreducible] ACalls W4
theorem B7S{Q}(f:Fm)(d:FmFit f)(g:VOk f)(hv:E5 f=true)(b:Bool)(hs:V6 f []=some b)(H:Heap)(h:Q (.tuple [.bool b,.int .i64 0]) H):D7 31 [.agg (C0 f)] H Q:=by
 refine A8 [] A5 Tryz.func31 rfl ?_;simp only[go_sem,seval,Tryz.results31];have e:=fun(Q:D→Heap→Prop) (H:Heap)=>Q5 (Q:=Q) f d g H;rw[hv]at e;repeat' (first|simp only[go_sem,seval]|intro i|with_reducible refine e _ _ ?_)
 refine A0P 3 ?_;refine A3e f (L5 hv) d [] (by simp) b hs _ ?_;repeat' simp only[go_sem,seval]
 exact D1H (A0 (by assumption)) h
theorem B9o{Q}(f g:Fm)(p:FmFit f)(q:FmFit g)(z:VOk f)(A:VOk g)(r:E5 f=true)(u:E5 g=true)(hm:meetL (D4.intsL [f,g]) (C5.boolsL [f,g])=false)(hl:(upS (D4.intsL [f,g])).length+(upS (C5.boolsL [f,g])).length≤12)
  (b:Bool) (hs:V6 (.mk 5 0 nilL D1 [f,normF g true]) []=some b) (hn:G8 D5 (.mk 5 0 nilL D1 [f,normF g true])=true) (H:Heap) (h:Q (.tuple [.bool (!b),.int .i64 0]) H):D7 37 [.agg (C0 f),.agg (C0 g)] H Q:=by
 refine A8 [] A5 Tryz.func37 rfl ?_;simp only[go_sem,seval,Tryz.results37];intro d C i m;simp only[A6]at m;have o:d≠i:=fun e=>m.1 e.symm;have x:((H.set d (.box (C0 f))).set i (.box (C0 g))) d=some (.box (C0 f)):=by rw[A3 _ o,A2]
 have y:((H.set d (.box (C0 f))).set i (.box (C0 g))) i=some (.box (C0 g)):=A2 _ _;have j:H.Le ((H.set d (.box (C0 f))).set i (.box (C0 g))):=(A0 C).trans (A0 (by simp only[A6];exact m));generalize (H.set d (.box (C0 f))).set i (.box (C0 g))=Bs at x y j⊢;repeat' (first|simp only[go_sem,seval,x,y]|with_reducible refine C09 f g p q z A r u hm hl _ ?_|with_reducible refine A7b f g (L5 r) p (L5 u) q b hs hn _ ?_)
 exact D1H j h
theorem B9p{Q}(f:Fm)(j:FmFit f)(q:VOk f)(m:E5 f=true)(hm:meetL (D4.intsL [f,f]) (C5.boolsL [f,f])=false)(hl:(upS (D4.intsL [f,f])).length+(upS (C5.boolsL [f,f])).length≤12)
  (hs:V6 (.mk 5 0 nilL D1 [f,normF f true]) []=some false) (hn:G8 D5 (.mk 5 0 nilL D1 [f,normF f true])=true) (H:Heap) (h:Q (.tuple [.bool true,.int .i64 0]) H):D7 38 [.agg (C0 f),.agg (C0 f)] H Q:=by
 refine A8 [] A5 Tryz.func38 rfl ?_;simp only[go_sem,seval,Tryz.results38];intro d y g o;simp only[A6]at o;have p:d≠g:=fun e=>o.1 e.symm;have r:((H.set d (.box (C0 f))).set g (.box (C0 f))) d=some (.box (C0 f)):=by rw[A3 _ p,A2]
 have u:((H.set d (.box (C0 f))).set g (.box (C0 f))) g=some (.box (C0 f)):=A2 _ _;have i:H.Le ((H.set d (.box (C0 f))).set g (.box (C0 f))):=(A0 y).trans (A0 (by simp only[A6];exact o));generalize (H.set d (.box (C0 f))).set g (.box (C0 f))=Bs at r u i⊢;have x:=fun(Q:D→Heap→Prop) (H:Heap)=>A7b (Q:=Q) f f (L5 m) j (L5 m) j false hs hn H;simp only[D1E]at x;repeat' (first|simp only[go_sem,seval,r,u]|with_reducible refine C09 f f j j q q m m hm hl _ ?_|with_reducible refine x _ _ ?_)
 exact D1H i h
theorem B0o{Q}(so g:Fm)(o:Nat)(H:Heap)(r:H o=some (.box (C0 so)))(h:Q (.agg (C0 (A00 [so,g]))) H):D7 74 [.agg (C0 g),.box o 0] H Q:=by
 refine A8 [] A5 Tryz.func74 rfl ?_;simp only[go_sem,seval,Tryz.results74];intro d u i m;simp only[A6]at m;have y:d≠i:=fun e=>m.1 e.symm;have z:o≠d:=fun e=>by rw[←e,r]at u;cases u
 have A:o≠i:=fun e=>by rw[←e,r]at m;cases m.2
 obtain⟨Z,C⟩: ∃Z:List D,Z= [.int .i64 0,.int .i64 0,.nilsl,.int .i64 0,.bool false,.str ⟨#[]⟩,.nilsl]:=⟨_,rfl⟩
 rw[←C];have G:((H.set d (.box (C0 g))).set i (.box Z)) d=some (.box (C0 g)):=by rw[A3 _ y,A2]
 have q:((H.set d (.box (C0 g))).set i (.box Z)) i=some (.box Z):=A2 _ _;have I:((H.set d (.box (C0 g))).set i (.box Z)) o=some (.box (C0 so)):=by rw[A3 _ A,A3 _ z];exact r
 have p:H.Le ((H.set d (.box (C0 g))).set i (.box Z)):=(A0 u).trans (A0 (by simp only[A6];exact m));generalize (H.set d (.box (C0 g))).set i (.box Z)=Bs at G q I p⊢;rw[C]at q;repeat' (first|simp only[go_sem,seval,G,q,I]|simp(disch:=first|omega|grind) only[B9]|(intro j;try simp only[A6]at j))
 rename_i x;have hx:=j;clear j;exact B11 (es:=[C0 so,C0 g]) [so,g] rfl rfl p m.2 q hx _ h
theorem B7T{Q}(so:Fm)(e:G8 D5 so=true)(g:FmFit so)(more:List LinV)(hm:more.length≤1000)(b:Bool)(hs:V6 so more=some b)(d:Nat)(H:Heap)(i:H d=some (.box (C0 so)))(h:Q (.bool b) H):D7 77 [.sl 3 (Rw E4 more),.box d 0] H Q:=by
 refine A8 [] A5 Tryz.func77 rfl ?_;simp only[go_sem,seval,Tryz.results77];repeat' (first|simp only[go_sem,seval,i]|with_reducible refine A3e so e g more hm b hs _ ?_)
 exact D1K h
abbrev vW:List D:=[.int .i64 3,.int .i64 0,.nilsl,.int .i64 0,.bool false,.str nB,.nilsl]
abbrev noW(d:D):List D:=[.int .i64 4,.int .i64 0,.nilsl,.int .i64 0,.bool false,.str ⟨#[]⟩,d]
theorem C3V:NilR (.agg (noW (.sl 7 [vW]))) (.agg (C0 A4M)):=by
 rw[show C0 A4M= [.int .i64 4,.int .i64 0,.sl 2 [],.int .i64 0,.bool false,.str ⟨#[]⟩,.sl 7 (Rw C0 [fxV])]from N3 _];refine B1a (.nil 2) (.sl 7 _ _ rfl (fun i e e' h1 m=>?_) (fun i e e' j d d' h1 m g h=>?_))
 ·match i with
  |0=>cases h1;cases m;rfl
  |i+1=>cases h1
 ·match i with
  |0=>
   cases h1;cases m;rw[show C0 fxV= [.int .i64 3,.int .i64 0,.sl 2 [],.int .i64 0,.bool false,.str nB,.sl 7 []]from N3 _]at h
   match j with
   |0=>cases g;cases h;exact .same _
   |1=>cases g;cases h;exact .same _
   |2=>cases g;cases h;exact .nil 2
   |3=>cases g;cases h;exact .same _
   |4=>cases g;cases h;exact .same _
   |5=>cases g;cases h;exact .same _
   |6=>cases g;cases h;exact .nil 7
   |j+7=>cases g
  |i+1=>cases h1
theorem C1A{Q}(so:Fm)(e:Nat)(H:Heap)(j:H e=some (.box (C0 so)))(h:Q (.agg (C0 (A00 [so,A4M]))) H):D7 74 [.agg (noW (.sl 7 [vW])),.box e 0] H Q:=by
 refine Z8 (args':=[.agg (C0 A4M),.box e 0]) rfl (fun i d d' h1 g=>?_) (B0o so A4M e H j h)
 match i with
 |0=>cases h1;cases g;exact C3V
 |1=>cases h1;cases g;exact .same _
 |i+2=>cases h1
theorem J8:E5 fxF=true∧FmFit fxF∧VOk fxF∧G8 D5 fxF=true:=⟨P9.1,(V9 _ A11.1).2,.inl (by have:=B0n.1;omega),(V9 _ A11.1).1⟩
def C8e:Nat→Fm
 |0=>fxF
 |1=>fxS
 |_=>A00 [fxS,A4l]
set_option maxHeartbeats 4000000 in
theorem B7U{Q}(H:Heap)(h:Q (.tuple [.sl 2 (Rw vlC fxVals),.int .i64 0]) H):D7 32 [.agg (C0 fxF)] H Q:=by
 refine A8 [(15,.wk)] A5 Tryz.func32 rfl ?_;simp only[go_sem,seval,Tryz.results32];obtain⟨hv,fa,vo,b4⟩:=J8;have vc:=fun(Q:D→Heap→Prop) (H:Heap)=>Q5 (Q:=Q) fxF fa vo H;rw[hv]at vc;intro b1 h1;have e1:(H.set b1 (.box (C0 fxF))) b1=some (.box (C0 fxF)):=A2 _ _;have U:H.Le (H.set b1 (.box (C0 fxF))):=A0 h1;have W:=A4N.1;have a4:=B9k;have a5:=A4N.2.2.2.2;have a6:=C6U;have V:=B7R;have u:=A11;generalize hF:fxF=F at e1 U vc hv fa vo b4 W a6 V⊢;generalize H.set b1 (.box (C0 F))=Bs at e1 U⊢;repeat' (first|simp only[go_sem,seval,e1]|with_reducible refine vc _ _ ?_)
 refine A0P 3 ?_;refine A3e F b4 fa [] (by simp) true W _ ?_;repeat' (first|simp only[go_sem,seval,e1]|(intro g;try simp only[A6]at g))
 rename_i x;have hx:=g;clear g;refine A3d hx F fa rfl ?_;repeat' (first|simp only[go_sem,seval,e1]|(intro g;try simp only[A6]at g))
 rename_i m;have h7:=g;clear g;have d0:b1≠m:=fun e=>by rw[←e,e1]at h7;cases h7
 have c7:(Bs.set m (.box (C0 F))) m=some (.box (C0 F)):=A2 _ _;have Y:H.Le (Bs.set m (.box (C0 F))):=U.trans (A0 h7);have b6:H m=none:=U.none h7;generalize Bs.set m (.box (C0 F))=Cs at c7 Y⊢;refine B7E _ _ (A1M _) _ fun K hK a9=>?_;have d2:K.length≤2:=by
  have:K.length= [nB,nX].length:=((List.perm_ext_iff_of_nodup hK (by decide+kernel)).2 fun y=>by rw[a9,F9,F9,←D0F,←S3,V]).length_eq;have d3: [nB,nX].length=2:=rfl;omega
 repeat' simp only[go_sem,seval]
 refine A8e _ _ fun bk b0=>?_;repeat' simp only[go_sem,seval]
 refine A8f bk tt K (by omega) (fun s hs=>by
  have:s∈[nB,nX]:=by rw[←V,S3,D0F,←F9,←F9 (C5 F),←a9];exact hs
  simp only[D0H,D0I,or_false]at this;rcases this with rfl|rfl<;>decide) _ (A2 _ _) fun v c1 hm=>?_
 have ev:v= [nB,nX]:=by
  rw[←V];exact A5p c1 (A8S _) fun s=>by rw[hm,a9,F9,F9,S3,D0F]
 rw[ev];have c2:m≠bk:=fun e=>by rw[←e,c7]at b0;cases b0
 have I:(Cs.set bk (.box [.fm (C7 tt K)])) m=some (.box (C0 F)):=by rw[A3 _ c2];exact c7
 have a0:H.Le (Cs.set bk (.box [.fm (C7 tt K)])):=Y.trans (A0 b0);generalize Cs.set bk (.box [.fm (C7 tt K)])=Ds at I a0⊢;have hlen:(Rw a7 [nB,nX]).length=2:=rfl;repeat' simp only[go_sem,seval,hlen]
 refine C9 [5,7,8,31,32] (fun(p:Nat×Option Nat×Heap)=>[(33,.int .i64 p.1),(6,J1 2 p.1 p.2.1)]) (fun(p:Nat×Option Nat×Heap)=>p.2.2) (fun(p:Nat×Option Nat×Heap)=>p.1≤2∧p.2.2 m=some (.box (C0 (C8e p.1)))∧OutIn H 2 (Rw vlC (fxVals.take p.1)) p.2.1 p.2.2) (fun(p:Nat×Option Nat×Heap)=>2-p.1) ((0,none,Ds)) (⟨D0A _,by show Ds m=_;rw[I,←hF];rfl,a0,rfl,fun _ e=>(by cases e)⟩) (by(try simp only[go_sem,seval])<;>(try simp(disch:=omega) [A4])) (by first|exact D1G _|exact A0 (by assumption)|exact B2 (by assumption)|simp only[Heap.Le,Heap.set,Heap.del]at* <;>grind) ?_;rintro Ec rfl ⟨k,ob,Hp⟩ ⟨hk,A,J⟩;simp only at hk A J
 match k,hk,A,J with
 |0,hk,A,J=>
  have r0:(Rw a7 [nB,nX]).getD 0 []= [.str nB]:=rfl;repeat' (first|with_reducible apply C9p|simp only[go_sem,seval,r0,A,A2O,if_pos a6.1]|(intro g;try simp only[A6]at g)|omega)
  rename_i j o x hx q;have r:=g;clear g;have c7: ∀X:Av.Obj,((Hp.set j (.box [.str nB,.int .i64 0])).set q X) m=some (.box (C0 fxF)):=fun X=>by
   rw[A3 _ (fun e=>by rw[←e,A]at r;cases r.2.2),A3 _ (fun e=>by rw[←e,A]at o;cases o)];exact A
  have c3: ∀X:Av.Obj,((Hp.set j (.box [.str nB,.int .i64 0])).set q X) j=some (.box [.str nB,.int .i64 0]):=fun X=>by
   rw[A3 _ (fun e=>by rw[e]at r;exact r.2.1 rfl)];exact A2 _ _
  have c4:=(J.set o (.box [.str nB,.int .i64 0])).set (b:=q) (A6.2 ⟨r.2.1,r.2.2⟩);refine C6T [(5,.fm (C7 tt (I9 (C5 F)))),(7,.box m 0),(8,.fn (.func 74) [] [.box m 0]),(31,.sl 1 (Rw a7 [nB,nX])),(32,.int .i64 2),(33,.int .i64 0),(6,J1 2 0 ob),(10,.str nB),(11,.box j 0),(12,.box q 0)] ((Hp.set j (.box [.str nB,.int .i64 0])).set q (.box (noW (.sl 7 [vW])))) (B4b (cs:=noW (.vec x 7 0 1)) (by(try simp only[go_sem,seval])<;>(try simp(disch:=omega) [A4])) (A6.2 hx) r.1 rfl (fun i d d' h1 h2=>?_)) ?_
  ·match i with
   |0=>cases h1;cases h2;exact .same _
   |1=>cases h1;cases h2;exact .same _
   |2=>cases h1;cases h2;exact .same _
   |3=>cases h1;cases h2;exact .same _
   |4=>cases h1;cases h2;exact .same _
   |5=>cases h1;cases h2;exact .same _
   |6=>cases h1;cases h2;exact .all
   |i+7=>cases h1
  have I:=c7 (.box (noW (.sl 7 [vW])));have C:=c3 (.box (noW (.sl 7 [vW])));have d12:((Hp.set j (.box [.str nB,.int .i64 0])).set q (.box (noW (.sl 7 [vW])))) q=some (.box (noW (.sl 7 [vW]))):=A2 _ _;have L:=c4 (.box (noW (.sl 7 [vW])));have M:m≠j:=fun e=>by rw[←e,A]at o;cases o
  generalize (Hp.set j (.box [.str nB,.int .i64 0])).set q (.box (noW (.sl 7 [vW])))=T at I C d12 L⊢;repeat' (first|simp only[go_sem,seval,d12]|with_reducible refine C1A fxF m T I ?_)
  refine A0P 3 ?_;refine A3e fxS (V9 _ u.2.2.2.2.1).1 (V9 _ u.2.2.2.2.1).2 [] (by simp) true a5 _ ?_;repeat' (first|simp only[go_sem,seval,I,C,d12,B7Q]|simp(disch:=first|omega|grind) only[B9]|(intro g;try simp only[A6]at g)|with_reducible refine C1A fxF m T I ?_)
  rename_i y;have hy:(T.set m (.box (C0 (A00 [fxF,A4M])))) y=none:=A6.2 g;clear g;have f7:(T.set m (.box (C0 (A00 [fxF,A4M])))) m=some (.box (C0 (A00 [fxF,A4M]))):=A2 _ _;have G:=A8l L b6 I (.box (C0 (A00 [fxF,A4M])));generalize T.set m (.box (C0 (A00 [fxF,A4M])))=Gt at f7 hy G⊢;refine B5Y (G.set hy _) (by simp) rfl (by simp) (by simp) fun b' b2 b3 b8=>?_;obtain⟨g7,O⟩:=A7e (c:=[.str nB,.int .i64 0]) G f7 hy b2 b3;repeat' (first|simp only[go_sem,seval]|simp(disch:=omega) only[A4,A9,D0])
  exact C2 (1,some b',_) ⟨by simp,g7,O⟩ (by simp) (by(try simp only[go_sem,seval])<;>(try simp(disch:=omega) [A4])) (D1G _)
 |1,hk,A,J=>
  have r1:(Rw a7 [nB,nX]).getD 1 []= [.str nX]:=rfl;repeat' (first|with_reducible apply C9p|simp only[go_sem,seval,r1,A,A2O,if_neg a6.2]|(intro g;try simp only[A6]at g)|omega)
  rename_i j;have o:=g;clear g;have M:m≠j:=fun e=>by rw[←e,A]at o;cases o
  have I:(Hp.set j (.box [.str nX,.int .i64 0])) m=some (.box (C0 fxS)):=by rw[A3 _ M];exact A
  have C:(Hp.set j (.box [.str nX,.int .i64 0])) j=some (.box [.str nX,.int .i64 0]):=A2 _ _;have L:=J.set o (.box [.str nX,.int .i64 0]);generalize Hp.set j (.box [.str nX,.int .i64 0])=T at I C L⊢;refine B4I (fun more=>V6 fxS more) nX A6S.2.2 77 [.box m 0] T (fun more bb c5 c9 d4 H' Q c6 hq=>B7T fxS (V9 _ u.2.2.2.2.1).1 (V9 _ u.2.2.2.2.1).2 more (by omega) bb c5 m H' (c6 _ _ I) hq) 1 a4 ?_;repeat' (first|simp only[go_sem,seval,C]|simp(disch:=omega) only[A4,A9,D0]|simp(disch:=first|omega|grind) only[B9]|(intro g;try simp only[A6]at g))
  rename_i z;have hz:=g;clear g;have b9:H j=none:=J.1.none o;have f7:(T.set j (.box [.str nX,.int .i64 1])) m=some (.box (C0 fxS)):=by rw[A3 _ M];exact I
  have c0:(T.set j (.box [.str nX,.int .i64 1])) j=some (.box [.str nX,.int .i64 1]):=A2 _ _;have G:=A8l L b9 C (.box [.str nX,.int .i64 1]);refine A43 (A2 _ _) rfl ?_;rw[E9 (A6.2 hz)];generalize T.set j (.box [.str nX,.int .i64 1])=Gt at f7 c0 G⊢;refine A4L ⟨[⟨nX,1⟩],-1,true⟩ _ ?_;repeat' simp only[go_sem,seval]
  refine B0o fxS A4l m Gt f7 ?_;repeat' (first|simp only[go_sem,seval,f7,c0,B7Q]|simp(disch:=first|omega|grind) only[B9]|(intro g;try simp only[A6]at g))
  rename_i y;have hy:(Gt.set m (.box (C0 (A00 [fxS,A4l])))) y=none:=A6.2 g;clear g;have g7:(Gt.set m (.box (C0 (A00 [fxS,A4l])))) m=some (.box (C0 (A00 [fxS,A4l]))):=A2 _ _;have O:=A8l G b6 f7 (.box (C0 (A00 [fxS,A4l])));generalize Gt.set m (.box (C0 (A00 [fxS,A4l])))=Gu at g7 hy O⊢;refine B5Y (O.set hy _) (by simp) rfl (by simp) (by simp) fun b' b2 b3 b8=>?_;obtain⟨k7,c8⟩:=A7e (c:=[.str nX,.int .i64 1]) O g7 hy b2 b3;repeat' (first|simp only[go_sem,seval]|simp(disch:=omega) only[A4,A9,D0])
  exact C2 (2,some b',_) ⟨by simp,k7,c8⟩ (by simp) (by(try simp only[go_sem,seval])<;>(try simp(disch:=omega) [A4])) (D1G _)
 |2,hk,A,J=>
  repeat' (first|with_reducible apply C9p|simp only[go_sem,seval]|simp(disch:=omega) only[A4,A9,D0]|(intro g;try simp only[A6]at g)|omega)
  have e2:fxVals.take 2=fxVals:=rfl;rw[e2]at J;refine A6Y (n:=2) rfl J.2.1 (D1H J.le h)
 |k+3,hk,_,_=>omega
end Go.Proofs.YtibphjonmikciaaGreatDoor
