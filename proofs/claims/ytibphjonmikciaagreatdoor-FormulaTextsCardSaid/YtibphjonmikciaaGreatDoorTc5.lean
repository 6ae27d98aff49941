/- Part of the proof: what the last text builds on. No condition stands here. -/
import Derived.Test.YtibphjonmikciaaGreatDoorProg
import Derived.Test.YtibphjonmikciaaGreatDoorRows
import Derived.Test.YtibphjonmikciaaGreatDoorCards
import Derived.Test.YtibphjonmikciaaGreatDoorTie
import Derived.Test.YtibphjonmikciaaGreatDoorTc4
set_option linter.unusedSimpArgs false
set_option linter.unusedVariables false
set_option maxRecDepth 20000
namespace Go.Fo
open Go Go.Av Go.Lexs Go.Lin
def j0:List UInt8:=[116,114,117,101]
def flsB:List UInt8:=[102,97,108,115,101]
def C8:Fm→List UInt8
 | .mk o n l s ks=>
  if o=1 then(if n=1 then j0 else flsB)
  else if o=2 then E9 l
  else if o=3 then 63::B s
  else if o=4 then 33::textH ks
  else(if o=6 then 124 else 38)::40::(textK true ks++[41])
where
 textH:List Fm→List UInt8
 | []=>[]
 |f::_=>C8 f
 textK:Bool→List Fm→List UInt8
 |_,[]=>[]
 |b,f::fs=>(if b=true then []else [44,32])++C8 f++textK false fs
theorem A8V{f:Fm}(h:f.op=1):C8 f=if f.n=1 then j0 else flsB:=by
 obtain⟨o,n,l,s,ks⟩:=f;simp only[Fm.op]at h;subst h;rw[C8,if_pos rfl];rfl
theorem A8W{f:Fm}(h:f.op=2):C8 f=E9 f.l:=by
 obtain⟨o,n,l,s,ks⟩:=f;simp only[Fm.op]at h;subst h;rw[C8,if_neg (by decide),if_pos rfl];rfl
theorem A8X{f:Fm}(h:f.op=3):C8 f=63::B f.s:=by
 obtain⟨o,n,l,s,ks⟩:=f;simp only[Fm.op]at h;subst h;rw[C8,if_neg (by decide),if_neg (by decide),if_pos rfl];rfl
theorem A8Y{f k:Fm}(h:f.op=4)(hk:f.ks= [k]):C8 f=33::C8 k:=by
 obtain⟨o,n,l,s,ks⟩:=f;simp only[Fm.op]at h;simp only[Fm.ks]at hk;subst h;subst hk;rw[C8,if_neg (by decide),if_neg (by decide),if_neg (by decide),if_pos rfl];rfl
theorem A1x{f:Fm}(h1:f.op≠1)(d:f.op≠2)(e:f.op≠3)(g:f.op≠4):C8 f=(if f.op=6 then 124 else 38)::40::(C8.textK true f.ks++[41]):=by
 obtain⟨o,n,l,s,ks⟩:=f;simp only[Fm.op]at h1 d e g;rw[C8,if_neg h1,if_neg d,if_neg e,if_neg g];rfl
theorem M2(b:Bool)(f:Fm)(fs:List Fm):C8.textK b (f::fs)=(if b=true then []else [44,32])++C8 f++C8.textK false fs:=by rw[C8.textK]
theorem B5e(b:Bool)(l m:List Fm):C8.textK b (l++m)=C8.textK b l++C8.textK (b&&l.isEmpty) m:=by
 induction l generalizing b with
 |nil=>simp[C8.textK]
 |cons f l d=>simp only[D2k,M2,d,D2N,List.isEmpty_cons,Bool.and_false,Bool.false_and]
theorem Y0(l:List Fm)(i:Nat)(h:i<l.length):C8.textK true (l.take (i+1))=C8.textK true (l.take i)++((if i=0 then []else [44,32])++C8 l[i]):=by
 rw[D1s h,B5e,M2]
 congr 1
 simp only[C8.textK,D2O,Bool.true_and]
 congr 1
 cases i with
 |zero=>simp
 |succ i=>cases l with
  |nil=>simp at h
  |cons x l=>simp
def A8Z(c:UInt8):Bool:=c==44||c==41
def nst(c:UInt8):Bool:= !A8Z c
def E8(r:List UInt8):List UInt8:=r.takeWhile nst
def Q6(r:List UInt8):List UInt8:=r.dropWhile nst
def pre(p r:List UInt8):Bool:=p.isPrefixOf r
def A7j(w:List UInt8):Fm×Bool:=if w=j0 then(.mk 1 1 nilL D3 [],false)else if w=flsB then(.mk 1 0 nilL D3 [],false)else(A24 (K2 w).1,decide ((K2 w).2≠0))
def A1K(form:List UInt8→Fm×List UInt8×Bool):Nat→List UInt8→List Fm→List Fm×List UInt8×Bool
 |0,r,_=>([],r,true)
 |n+1,r,out=>
  if pre [41] (form r).2.1=true then(out++[(form r).1],(form r).2.1.drop 1,(form r).2.2)
  else if(form r).2.2=true then([],(form r).2.1,true)
  else if pre [44,32] (form r).2.1=true then A1K form n ((form r).2.1.drop 2) (out++[(form r).1])
  else([],(form r).2.1,true)
def Z2(form:List UInt8→Fm×List UInt8×Bool)(r:List UInt8):List Fm×List UInt8×Bool:=if pre [41] r=true then([],r.drop 1,false)else A1K form (r.length+1) r []
def G6:Nat→List UInt8→Fm×List UInt8×Bool
 |0,r=>(Q5,r,true)
 |e+1,r=>
  if pre [63] r=true then(.mk 3 0 nilL (S (E8 (r.drop 1))) [],Q6 (r.drop 1),false)
  else if pre [33] r=true then(.mk 4 0 nilL D3 [(G6 e (r.drop 1)).1],(G6 e (r.drop 1)).2.1,(G6 e (r.drop 1)).2.2)
  else if pre [38,40] r=true then(.mk 5 0 nilL D3 (Z2 (G6 e) (r.drop 2)).1,(Z2 (G6 e) (r.drop 2)).2.1,(Z2 (G6 e) (r.drop 2)).2.2)
  else if pre [124,40] r=true then(.mk 6 0 nilL D3 (Z2 (G6 e) (r.drop 2)).1,(Z2 (G6 e) (r.drop 2)).2.1,(Z2 (G6 e) (r.drop 2)).2.2)
  else((A7j (E8 r)).1,Q6 r,(A7j (E8 r)).2)
def A7k(s:List UInt8):Fm×Nat:=
 if E8 s=j0 then(.mk 1 1 nilL D3 [],4)else if E8 s=flsB then(.mk 1 0 nilL D3 [],5)
 else if pre [63] (E8 s)=true then(.mk 3 0 nilL (S ((E8 s).drop 1)) [],(E8 s).length)
 else if(K2 (E8 s)).2=0 then(A24 (K2 (E8 s)).1,(E8 s).length)else(Q5,s.length)
def Y1(form:List UInt8→Fm×Nat)(s:List UInt8):Nat→Nat→List Fm→List Fm×Nat
 |0,_,out=>(out,s.length)
 |n+1,k,out=>
  if k<s.length∧I3 s k≠41 then
   if k+(form (s.drop k)).2+1<s.length∧I3 s (k+(form (s.drop k)).2)=44 then Y1 form s n (k+(form (s.drop k)).2+2) (out++[(form (s.drop k)).1])
   else if k+(form (s.drop k)).2<s.length∧I3 s (k+(form (s.drop k)).2)≠41 then(out++[(form (s.drop k)).1],s.length)
   else(out++[(form (s.drop k)).1],min (k+(form (s.drop k)).2+1) s.length)
  else(out,min (k+1) s.length)
def J1:Nat→List UInt8→Fm×Nat
 |0,s=>(Q5,s.length)
 |e+1,s=>
  if s= []then(Q5,0)
  else if pre [33] s=true then(.mk 4 0 nilL D3 [(J1 e (s.drop 1)).1],(J1 e (s.drop 1)).2+1)
  else if pre [38] s=true∨pre [124] s=true then(.mk (if pre [124] s=true then 6 else 5) 0 nilL D3 (Y1 (J1 e) s (s.length+1) (min 2 s.length) []).1,(Y1 (J1 e) s (s.length+1) (min 2 s.length) []).2)
  else A7k s
def Stp(tl:List UInt8):Prop:=∀c r,tl=c::r→nst c=false
theorem B4K:Stp []:=fun c r e=>by cases e
theorem B78(r:List UInt8):Stp (41::r):=fun c r e=>by injection e with e _;subst e;decide
theorem B79(r:List UInt8):Stp (44::r):=fun c r e=>by injection e with e _;subst e;decide
theorem A1L{w tl:List UInt8}(h: ∀c∈w,nst c=true)(d:Stp tl):E8 (w++tl)=w∧Q6 (w++tl)=tl:=T5 h d
def okC(c:UInt8):Prop:=c.toNat≠40∧c.toNat≠41∧c.toNat≠44∧c.toNat≠33∧c.toNat≠38∧c.toNat≠124∧c.toNat≠63
theorem A46{s:ByteArray}(h:plainB s=true): ∀c∈B s,okC c:=fun c hc=>by
 unfold plainB at h;rw[D1m]at h;have:=B3w h.2 c hc;unfold a8 at this;simp only[D1m,D1v]at this;unfold okC;omega
theorem A7C{c:UInt8}(h:okC c):nst c=true:=by
 unfold okC at h;unfold nst A8Z;simp only[Bool.not_eq_true',Bool.or_eq_false_iff,beq_eq_false_iff_ne,ne_eq];exact⟨fun e=>by subst e;simp at h,fun e=>by subst e;simp at h⟩
theorem A7D{s:ByteArray}(h:plainB s=true):G5 (B s)=true:=by
 unfold plainB at h;rw[D1m]at h;exact h.1
theorem A1p{c:UInt8}(h:c.toNat=43∨c.toNat=45∨c.toNat=42∨c.toNat=62∨c.toNat=61∨(48≤c.toNat∧c.toNat≤57)):okC c:=by unfold okC;omega
theorem A9f{l:LinV}(hv:validL l=true)(hp: ∀t∈l.t,plainB t.v=true): ∀c∈E9 l,okC c:=by
 have key: ∀(m:List LTm) (f:Bool),(∀t∈m,plainB t.v=true)→∀c∈J4 f m,okC c:=by
  intro m
  induction m with
  |nil=>intro f _ c hc;cases hc
  |cons t m d=>
   intro f h c hc;rw[J4]at hc;rcases D1z.1 hc with g|g
   ·unfold R5 at g;rcases D1z.1 g with g|g
    ·rcases sign_or f t.c with q|q|q<;>rw[q]at g
     ·cases g
     ·rw[D10]at g;subst g;exact A1p (by decide)
     ·rw[D10]at g;subst g;exact A1p (by decide)
    ·rcases D1z.1 g with g|g
     ·split at g
      ·cases g
      ·rcases D1z.1 g with g|g
       ·have:=Q3 _ c g;exact A1p (by omega)
       ·rw[D10]at g;subst g;exact A1p (by decide)
     ·exact A46 (h t (D1k ..)) c g
   ·exact d false (fun x hx=>h x (D1r _ hx)) c g
 intro c hc;unfold E9 L8 at hc;rcases D1z.1 hc with g|g
 ·rcases D1z.1 g with g|g
  ·exact key l.t true hp c g
  ·unfold P8 at g;split at g
   ·unfold y7 at g;rcases D1z.1 g with g|g
    ·rcases sign_or l.t.isEmpty l.k with q|q|q<;>rw[q]at g
     ·cases g
     ·rw[D10]at g;subst g;exact A1p (by decide)
     ·rw[D10]at g;subst g;exact A1p (by decide)
    ·have:=Q3 _ c g;exact A1p (by omega)
   ·cases g
 ·split at g
  ·simp only[D11,D12,or_false]at g;rcases g with rfl|rfl<;>exact A1p (by decide)
  ·simp only[D11,D12,or_false]at g;rcases g with rfl|rfl|rfl<;>exact A1p (by decide)
theorem B8A(l:LinV):(61:UInt8)∈E9 l:=by
 unfold E9;split<;>simp
theorem A9g(l:LinV):E9 l≠[]:=fun h=>by have:=B8A l;rw[h]at this;cases this
theorem A6E(l:LinV):E9 l≠j0∧E9 l≠flsB:=by
 have:=B8A l;exact⟨fun h=>by rw[h]at this;revert this;decide,fun h=>by rw[h]at this;revert this;decide⟩
theorem M4(c d:UInt8)(r:List UInt8):pre [c] (d::r)=(c==d):=by simp[pre,List.isPrefixOf]
theorem A6F(c e d:UInt8)(r:List UInt8):pre [c,e] (d::r)=(c==d&&pre [e] r):=by simp[pre,List.isPrefixOf]
theorem A9h{c:UInt8}{r:List UInt8}(h:okC c):pre [63] (c::r)=false∧pre [33] (c::r)=false∧pre [38] (c::r)=false∧pre [124] (c::r)=false∧pre [38,40] (c::r)=false∧pre [124,40] (c::r)=false∧pre [41] (c::r)=false:=by
 unfold okC at h;have k: ∀d:UInt8,c.toNat≠d.toNat→(d==c)=false:=fun d g=>by
  rw[beq_eq_false_iff_ne];intro e;exact g (by rw[e])
 simp only[M4,A6F,k 63 h.2.2.2.2.2.2,k 33 h.2.2.2.1,k 38 h.2.2.2.2.1,k 124 h.2.2.2.2.2.1,k 41 h.2.1,Bool.false_and,and_self]
theorem A47{f:Fm}(g:G8 D5 f=true): ∃c r,C8 f=c::r∧c≠41:=by
 cases V4 g with
 |con n h=>
  rw[A8V rfl];split
  ·exact⟨_,_,rfl,by decide⟩
  ·exact⟨_,_,rfl,by decide⟩
 |lin l h hp=>
  rw[A8W rfl];have hm:=A9f h hp;show∃c r,E9 l=c::r∧c≠41;cases d:E9 l with
  |nil=>exact absurd d (A9g l)
  |cons c r=>
   have:=hm c (by rw[d];exact D1k ..);exact⟨c,r,rfl,fun e=>by subst e;unfold okC at this;simp at this⟩
 |var s h=>rw[A8X rfl];exact⟨_,_,rfl,by decide⟩
 |not k=>rw[A8Y rfl rfl];exact⟨_,_,rfl,by decide⟩
 |and ks=>rw[A1x (by simp[Fm.op]) (by simp[Fm.op]) (by simp[Fm.op]) (by simp[Fm.op])];exact⟨_,_,rfl,by show (38:UInt8)≠41;decide⟩
 |or ks=>rw[A1x (by simp[Fm.op]) (by simp[Fm.op]) (by simp[Fm.op]) (by simp[Fm.op])];exact⟨_,_,rfl,by show (124:UInt8)≠41;decide⟩
theorem A8a(ks:List Fm)(h: ∀k∈ks,G8 D5 k=true): ∀b,ks.length≤(C8.textK b ks).length:=by
 induction ks with
 |nil=>intro b;simp
 |cons f fs d=>
  intro b;obtain⟨c,r,hc,_⟩:=A47 (h f (D1k ..));have:=d (fun k hk=>h k (D1r _ hk)) false;rw[M2,hc];simp only[D1f,D1e];omega
theorem B23(d:List UInt8→Fm×List UInt8×Bool)(tl:List UInt8): ∀(ks:List Fm),ks≠[]→(∀k∈ks,∀tl,Stp tl→d (C8 k++tl)=(k,tl,false))→∀n out,ks.length≤n→A1K d n (C8.textK true ks++(41::tl)) out=(out++ks,tl,false):=by
 intro ks
 induction ks with
 |nil=>intro h;exact absurd rfl h
 |cons k ks i=>
  intro _ hk n out hn;obtain⟨n,rfl⟩: ∃m,n=m+1:=⟨n-1,by simp only[D1e]at hn;omega⟩
  rw[A1K,M2];simp only[if_true,D2l];cases ks with
  |nil=>
   have e:=hk k (D1k ..) (41::tl) (B78 _);simp only[C8.textK,D2O];rw[e];simp only[M4,beq_self_eq_true,if_true,List.drop_succ_cons,List.drop_zero]
  |cons g ks=>
   have e:=hk k (D1k ..) (44::32::(C8.textK true (g::ks)++(41::tl))) (B79 _);have e2:C8.textK false (g::ks)=44::32::C8.textK true (g::ks):=by rw[M2,M2];simp
   rw[e2];simp only[D2k,D2N];rw[e];have j:pre [41] (44::32::(C8.textK true (g::ks)++(41::tl)))=false:=by rw[M4];decide
   have o:pre [44,32] (44::32::(C8.textK true (g::ks)++(41::tl)))=true:=by rw[A6F,M4];decide
   simp only[j,o,D1p,if_false,if_true,List.drop_succ_cons,List.drop_zero];rw[i (by simp) (fun x hx=>hk x (D1r _ hx)) n _ (by simp only[D1e]at hn⊢;omega)];simp
theorem B24: ∀(f:Fm),G8 D5 f=true→∀e,N4 f≤e→∀tl,Stp tl→G6 e (C8 f++tl)=(f,tl,false):=by
 intro f
 induction f using R4 with
 |h o n l s ks J=>
  intro L e he tl m;have hk: ∀k∈ks,G8 D5 k=true:=fun k hk=>N9 (f:=.mk o n l s ks) L hk;obtain⟨e,rfl⟩: ∃d,e=d+1:=⟨e-1,by have:=((A1F _ e).1 he).1;omega⟩
  have M: ∀k∈ks,N4 k≤e:=fun k hm=>by have:=((A1F _ _).1 he).2 k hm;omega
  have q: ∀p,(∀k∈ks,G8 D5 k=true)→(p=38∨p=124)→Z2 (G6 e) ((p::40::(C8.textK true ks++[41])++tl).drop 2)=(ks,tl,false):=by
   intro p hk hp;simp only[D2k,List.drop_succ_cons,List.drop_zero,D2N,D2l];unfold Z2;cases ks with
   |nil=>simp only[C8.textK,D2l,M4,beq_self_eq_true,if_true,List.drop_succ_cons,List.drop_zero]
   |cons k ks=>
    obtain⟨c,r,hc,u⟩:=A47 (hk k (D1k ..));have hp:pre [41] (C8.textK true (k::ks)++(41::tl))=false:=by
     rw[M2,hc];simp only[if_true,D2l,D2k,M4,beq_eq_false_iff_ne,ne_eq];exact fun e=>u e.symm
    rw[hp];simp only[D1p,if_false];rw[B23 (G6 e) tl (k::ks) (by simp) (fun x hx tl m=>J x hx (hk x hx) e (M x hx) tl m) _ _ (by
     have:=A8a (k::ks) hk true;rw[D1f];omega)]
    rfl
  cases V4 L with
  |con n h=>
   rw[A8V rfl];have g: ∀w,(w=j0∨w=flsB)→pre [63] (w++tl)=false∧pre [33] (w++tl)=false∧pre [38,40] (w++tl)=false∧pre [124,40] (w++tl)=false∧E8 (w++tl)=w∧Q6 (w++tl)=tl:=by
    intro w hw;have h1: ∀c∈w,okC c:=by
     rcases hw with rfl|rfl<;> · intro c hc;revert c;unfold okC;decide
    obtain⟨c,r,hc⟩: ∃c r,w=c::r:=by rcases hw with rfl|rfl<;>exact⟨_,_,rfl⟩
    have i:=A1L (w:=w) (tl:=tl) (fun c hc=>A7C (h1 c hc)) m;have j:=A9h (c:=c) (r:=r++tl) (h1 c (by rw[hc];exact D1k ..));rw[hc]at i⊢;exact⟨j.1,j.2.1,j.2.2.2.2.1,j.2.2.2.2.2.1,i.1,i.2⟩
   rw[G6];rcases h with rfl|rfl
   ·obtain⟨y,z,A,C,G,I⟩:=g flsB (.inr rfl);show (if pre [63] (flsB++tl)=true then(.mk 3 0 nilL (S (E8 ((flsB++tl).drop 1))) [],Q6 ((flsB++tl).drop 1),false)else if pre [33] (flsB++tl)=true then(.mk 4 0 nilL D3 [(G6 e ((flsB++tl).drop 1)).1],(G6 e ((flsB++tl).drop 1)).2.1,(G6 e ((flsB++tl).drop 1)).2.2)else if pre [38,40] (flsB++tl)=true then _ else if pre [124,40] (flsB++tl)=true then _ else((A7j (E8 (flsB++tl))).1,Q6 (flsB++tl),(A7j (E8 (flsB++tl))).2))=_;rw[y,z,A,C,G,I];rfl
   ·obtain⟨y,z,A,C,G,I⟩:=g j0 (.inl rfl);show (if pre [63] (j0++tl)=true then(.mk 3 0 nilL (S (E8 ((j0++tl).drop 1))) [],Q6 ((j0++tl).drop 1),false)else if pre [33] (j0++tl)=true then(.mk 4 0 nilL D3 [(G6 e ((j0++tl).drop 1)).1],(G6 e ((j0++tl).drop 1)).2.1,(G6 e ((j0++tl).drop 1)).2.2)else if pre [38,40] (j0++tl)=true then _ else if pre [124,40] (j0++tl)=true then _ else((A7j (E8 (j0++tl))).1,Q6 (j0++tl),(A7j (E8 (j0++tl))).2))=_;rw[y,z,A,C,G,I];rfl
  |lin l h hp=>
   rw[A8W rfl];show G6 (e+1) (E9 l++tl)=_;have hm:=A9f h hp;obtain⟨c,r,hc⟩: ∃c r,E9 l=c::r:=by
    cases m:E9 l with
    |nil=>exact absurd m (A9g l)
    |cons c r=>exact⟨c,r,rfl⟩
   have i:=A1L (w:=E9 l) (tl:=tl) (fun c hc=>A7C (hm c hc)) m;have j:=A9h (c:=c) (r:=r++tl) (hm c (by rw[hc];exact D1k ..));have u:E9 l++tl=c::(r++tl):=by rw[hc];rfl
   rw[G6,i.1,i.2,u,j.1,j.2.1,j.2.2.2.2.1,j.2.2.2.2.2.1];simp only[D1p,if_false];unfold A7j;rw[if_neg (A6E l).1,if_neg (A6E l).2];have:K2 (E9 l)=(l,0):=by unfold K2;rw[A5a l h]
   rw[this];rfl
  |var s h=>
   rw[A8X rfl];show G6 (e+1) (63::(B s++tl))=_;have hm:=A46 h;have i:=A1L (w:=B s) (tl:=tl) (fun c hc=>A7C (hm c hc)) m;rw[G6];simp only[M4,beq_self_eq_true,if_true,List.drop_succ_cons,List.drop_zero];rw[i.1,i.2,S_B]
  |not k=>
   rw[A8Y rfl rfl];show G6 (e+1) (33::(C8 k++tl))=_;have:=J k (D1k ..) (hk k (D1k ..)) e (M k (D1k ..)) tl m;rw[G6];simp only[M4,beq_self_eq_true,if_true,List.drop_succ_cons,List.drop_zero];rw[this];rfl
  |and ks=>
   rw[A1x (by simp[Fm.op]) (by simp[Fm.op]) (by simp[Fm.op]) (by simp[Fm.op])];show G6 (e+1) ((38:UInt8)::40::(C8.textK true ks++[41])++tl)=_;rw[G6,q 38 hk (.inl rfl)];simp only[D2k,M4,A6F];rfl
  |or ks=>
   rw[A1x (by simp[Fm.op]) (by simp[Fm.op]) (by simp[Fm.op]) (by simp[Fm.op])];show G6 (e+1) ((124:UInt8)::40::(C8.textK true ks++[41])++tl)=_;rw[G6,q 124 hk (.inr rfl)];simp only[D2k,M4,A6F];rfl
theorem nth_drop{s:List UInt8}{k:Nat}{c:UInt8}{r:List UInt8}(h:s.drop k=c::r):k<s.length∧I3 s k=c.toNat∧s.drop (k+1)=r∧s.length=k+1+r.length:=by
 have hk:k<s.length:=by
  rcases Nat.lt_or_ge k s.length with g|g
  ·exact g
  ·rw[List.drop_eq_nil_of_le g]at h;cases h
 have d:=D14 hk;rw[h]at d;injection d with h3 h4
 refine⟨hk,?_,h4.symm,?_⟩
 ·unfold I3;rw[h3];simp[hk]
 ·rw[h4,D17];omega
theorem B8B{s w R:List UInt8}{k:Nat}(h:s.drop k=w++R):s.drop (k+w.length)=R:=by
 rw[←D2j,h,List.drop_left]
theorem B5f(d:List UInt8→Fm×Nat)(s tl:List UInt8): ∀(ks:List Fm),(∀k∈ks,G8 D5 k=true)→(∀k∈ks,∀tl,Stp tl→d (C8 k++tl)=(k,(C8 k).length))→∀n k out,ks.length<n→s.drop k=C8.textK true ks++(41::tl)→Y1 d s n k out=(out++ks,s.length-tl.length):=by
 intro ks
 induction ks with
 |nil=>
  intro _ _ n k out hn hs;obtain⟨n,rfl⟩: ∃m,n=m+1:=⟨n-1,by simp only[D1g]at hn;omega⟩
  obtain⟨h1,h,J,L⟩:=nth_drop hs;have h:I3 s k=41:=h;rw[Y1,if_neg (by rw[h];simp)];refine Prod.ext (by simp) ?_;show min (k+1) s.length=_;omega
 |cons f ks z=>
  intro u hk n k out hn hs;obtain⟨n,rfl⟩: ∃m,n=m+1:=⟨n-1,by simp only[D1e]at hn;omega⟩
  obtain⟨c,r,hc,j⟩:=A47 (u f (D1k ..));rw[M2]at hs;simp only[if_true,D2l,D2N]at hs;have o:(c.toNat:Int)≠41:=fun e=>j (UInt8.toNat_inj.1 (by show c.toNat=41;omega));obtain⟨h1,h,_,_⟩:=nth_drop (c:=c) (r:=r++(C8.textK false ks++(41::tl))) (by rw[hs,hc];rfl);have i:=B8B hs;rw[Y1,if_pos ⟨h1,by rw[h];exact o⟩,hs];cases ks with
  |nil=>
   simp only[C8.textK,D2l]at i⊢;have p:=hk f (D1k ..) _ (B78 tl);simp only[p];obtain⟨A,g,y,C⟩:=nth_drop i;have g:I3 s (k+(C8 f).length)=41:=g;rw[if_neg (by rw[g];simp),if_neg (by rw[g];simp)];refine Prod.ext rfl ?_;show min _ s.length=_;omega
  |cons q ks=>
   have e2:C8.textK false (q::ks)=44::32::C8.textK true (q::ks):=by rw[M2,M2];simp
   rw[e2]at i⊢;simp only[D2k]at i⊢;have p:=hk f (D1k ..) _ (B79 (32::(C8.textK true (q::ks)++41::tl)));simp only[p];obtain⟨A,g,y,C⟩:=nth_drop i;have g:I3 s (k+(C8 f).length)=44:=g;obtain⟨G,M,I,O⟩:=nth_drop y;rw[if_pos ⟨G,g⟩,z (fun x hx=>u x (D1r _ hx)) (fun x hx=>hk x (D1r _ hx)) n _ _ (by simp only[D1e]at hn⊢;omega) I];simp
theorem B25: ∀(f:Fm),G8 D5 f=true→∀e,N4 f≤e→∀tl,Stp tl→J1 e (C8 f++tl)=(f,(C8 f).length):=by
 intro f
 induction f using R4 with
 |h o n l s ks G=>
  intro I e he tl m;have hk: ∀k∈ks,G8 D5 k=true:=fun k hk=>N9 (f:=.mk o n l s ks) I hk;obtain⟨e,rfl⟩: ∃d,e=d+1:=⟨e-1,by have:=((A1F _ e).1 he).1;omega⟩
  have y: ∀k∈ks,N4 k≤e:=fun k hm=>by have:=((A1F _ _).1 he).2 k hm;omega
  have j: ∀p,(∀k∈ks,G8 D5 k=true)→Y1 (J1 e) (p::40::(C8.textK true ks++[41])++tl) ((p::40::(C8.textK true ks++[41])++tl).length+1) 2 []=(ks,(p::40::(C8.textK true ks++[41])).length):=by
   intro p hk;rw[B5f (J1 e) _ tl ks hk (fun x hx tl m=>G x hx (hk x hx) e (y x hx) tl m) _ 2 [] (by
    have:=A8a ks hk true;simp only[D2k,D1e,D1f];omega) (by simp)]
   refine Prod.ext rfl ?_;simp only[D2k,D1e,D1f];omega
  have i: ∀w,w≠[]→(∀c∈w,okC c)→J1 (e+1) (w++tl)=A7k (w++tl)∧E8 (w++tl)=w∧pre [63] w=false:=by
   intro w hw hm;obtain⟨c,r,rfl⟩: ∃c r,w=c::r:=by
    cases w with
    |nil=>exact absurd rfl hw
    |cons c r=>exact⟨c,r,rfl⟩
   have z:=A9h (c:=c) (r:=r++tl) (hm c (D1k ..));have J:=A9h (c:=c) (r:=r) (hm c (D1k ..));refine⟨?_,(A1L (fun c hc=>A7C (hm c hc)) m).1,J.1⟩;rw[J1,if_neg (by simp)];simp only[D2k,z.2.1,z.2.2.1,z.2.2.2.1,D1p,if_false,or_self]
  cases V4 I with
  |con n h=>
   rw[A8V rfl];have g: ∀w,(w=j0∨w=flsB)→∀c∈w,okC c:=by
    intro w hw;rcases hw with rfl|rfl<;> · intro c hc;revert c;unfold okC;decide
   rcases h with rfl|rfl
   ·obtain⟨q,u,A⟩:=i flsB (by decide) (g _ (.inr rfl));show J1 (e+1) (flsB++tl)=(_,flsB.length);rw[q];unfold A7k;rw[u,if_neg (by decide),if_pos rfl];rfl
   ·obtain⟨q,u,A⟩:=i j0 (by decide) (g _ (.inl rfl));show J1 (e+1) (j0++tl)=(_,j0.length);rw[q];unfold A7k;rw[u,if_pos rfl];rfl
  |lin l h hp=>
   rw[A8W rfl];show J1 (e+1) (E9 l++tl)=(_,(E9 l).length);obtain⟨q,u,A⟩:=i (E9 l) (A9g l) (A9f h hp);have:K2 (E9 l)=(l,0):=by unfold K2;rw[A5a l h]
   rw[q];unfold A7k;rw[u,if_neg (A6E l).1,if_neg (A6E l).2,A,this];simp only[D1p,if_false,if_true];rfl
  |var s h=>
   rw[A8X rfl];show J1 (e+1) (63::(B s++tl))=(_,(63::B s).length);have hm:=A46 h;have L:=(A1L (w:=63::B s) (tl:=tl) (fun c hc=>by
    rcases D11.1 hc with rfl|hc
    ·decide
    ·exact A7C (hm c hc)) m).1
   have p: ∀d:UInt8,d≠63→pre [d] (63::(B s++tl))=false:=fun d y=>by rw[M4,beq_eq_false_iff_ne];exact y
   rw[J1,if_neg (by simp),p 33 (by decide),p 38 (by decide),p 124 (by decide)];simp only[D1p,if_false,or_self];unfold A7k;rw[show (63::(B s++tl):List UInt8)=63::B s++tl from rfl,L,if_neg (by intro e;injection e with e;revert e;decide),if_neg (by intro e;injection e with e;revert e;decide),M4];simp only[beq_self_eq_true,if_true,List.drop_succ_cons,List.drop_zero,S_B]
  |not k=>
   rw[A8Y rfl rfl];show J1 (e+1) (33::(C8 k++tl))=(_,(33::C8 k).length);have:=G k (D1k ..) (hk k (D1k ..)) e (y k (D1k ..)) tl m;rw[J1,if_neg (by simp)];simp only[M4,beq_self_eq_true,if_true,List.drop_succ_cons,List.drop_zero];rw[this];rfl
  |and ks=>
   rw[A1x (by simp[Fm.op]) (by simp[Fm.op]) (by simp[Fm.op]) (by simp[Fm.op])];show J1 (e+1) ((38:UInt8)::40::(C8.textK true ks++[41])++tl)=(_,((38:UInt8)::40::(C8.textK true ks++[41])).length);have C:min 2 ((38:UInt8)::40::(C8.textK true ks++[41])++tl).length=2:=by simp
   rw[J1,if_neg (by simp),C,j 38 hk];simp only[D2k,M4];rfl
  |or ks=>
   rw[A1x (by simp[Fm.op]) (by simp[Fm.op]) (by simp[Fm.op]) (by simp[Fm.op])];show J1 (e+1) ((124:UInt8)::40::(C8.textK true ks++[41])++tl)=(_,((124:UInt8)::40::(C8.textK true ks++[41])).length);have C:min 2 ((124:UInt8)::40::(C8.textK true ks++[41])++tl).length=2:=by simp
   rw[J1,if_neg (by simp),C,j 124 hk];simp only[D2k,M4];rfl
def okF(f:Fm)(s:List UInt8):Fm×Int:=if E3 f=true∧C8 f=s then(f,0)else(Q5,30)
def parseF(s:List UInt8):Fm×Int:=if s.length > 20000 then(Q5,3)else if(G6 60 s).2.2=true∨(G6 60 s).2.1≠[]then(Q5,30)else okF (G6 60 s).1 s
def A7E(s:List UInt8):Fm×Int:=if s.length > 20000 then(Q5,3)else okF (J1 60 s).1 s
theorem A7F{f:Fm}(h:E3 f=true):N4 f≤60:=by
 rw[A1H]at h;simp only[D1m,D1v]at h;exact h.1.1.1.2
theorem A48{f:Fm}(h:E3 f=true):G6 60 (C8 f)=(f,[],false):=by
 have:=B24 f (M5 h) 60 (A7F h) [] B4K;simpa using this
theorem B26{f:Fm}(h:E3 f=true):(J1 60 (C8 f)).1=f:=by
 have:=B25 f (M5 h) 60 (A7F h) [] B4K;rw[D2O]at this;rw[this]
theorem B8C(s:List UInt8):parseF s=A7E s:=by
 unfold parseF A7E;by_cases hl:s.length > 20000
 ·rw[if_pos hl,if_pos hl]
 rw[if_neg hl,if_neg hl];by_cases h1:E3 (G6 60 s).1=true∧C8 (G6 60 s).1=s
 ·have e:=A48 h1.1;have e2:=B26 h1.1;rw[h1.2]at e e2;rw[e];simp only[D1p,ne_eq,not_true,or_self,if_false];rw[e]at e2;simp only[]at e2;rw[e2]
 ·by_cases d:E3 (J1 60 s).1=true∧C8 (J1 60 s).1=s
  ·exfalso;have e:=A48 d.1;rw[d.2]at e;apply h1;rw[e];exact d
  ·unfold okF;rw[if_neg h1,if_neg d];split<;>rfl
theorem A3b{f:Fm}(h:E3 f=true)(hl:(C8 f).length≤20000):parseF (C8 f)=(f,0):=by
 unfold parseF;rw[if_neg (by omega),A48 h];simp only[D1p,ne_eq,not_true,or_self,if_false];unfold okF;rw[if_pos ⟨h,rfl⟩]
@[go_sem] theorem u0(o n:Int)(l:LinV)(s:ByteArray)(ks:List Fm):B9 (.mk o n l s ks)= [.int .i64 o,.int .i64 n,.sl 2 (Rw P2 l.t),.int .i64 l.k,.bool l.e,.str s,.sl 7 (Rw B9 ks)]:=O7 _
@[go_sem] theorem C0h(f:Fm):(B9 f).length=7:=by rw[O7];rfl
@[go_sem] theorem C7v(f:Fm):(B9 f).take 7=B9 f:=by rw[O7];rfl
theorem C0i(f:Fm):(B9 f).all D.one=true:=by rw[O7];rfl
attribute [go_sem] C0i
@[go_sem] theorem D06(f:Fm):(B9 f).head?=some (.int .i64 f.op):=by rw[O7];rfl
@[go_sem] theorem D07(f:Fm):((B9 f).drop 1).head?=some (.int .i64 f.n):=by rw[O7];rfl
@[go_sem] theorem D08(f:Fm):((B9 f).drop 2).head?=some (.sl 2 (Rw P2 f.l.t)):=by rw[O7];rfl
@[go_sem] theorem D09(f:Fm):((B9 f).drop 3).head?=some (.int .i64 f.l.k):=by rw[O7];rfl
@[go_sem] theorem D1A(f:Fm):((B9 f).drop 4).head?=some (.bool f.l.e):=by rw[O7];rfl
@[go_sem] theorem D1B(f:Fm):((B9 f).drop 5).head?=some (.str f.s):=by rw[O7];rfl
@[go_sem] theorem D1C(f:Fm):((B9 f).drop 6).head?=some (.sl 7 (Rw B9 f.ks)):=by rw[O7];rfl
@[go_sem] theorem D1D(f:Fm):((B9 f).drop 2).take 3=E4 f.l:=by rw[O7];rfl
@[go_sem] theorem C0j(a b c d e f g:D)(t:Fm):Q0 [a,b,c,d,e,f,g] 0 (B9 t)=B9 t:=by rw[O7];rfl
theorem B27{g h j m o p q r u:D}(x:NilR j m)(y:NilR r u):NilR (.agg [g,h,j,o,p,q,r]) (.agg [g,h,m,o,p,q,u]):=by
 refine .agg _ _ rfl fun i d d' h1 e=>?_
 match i with
 |0=>cases h1;cases e;exact .same _
 |1=>cases h1;cases e;exact .same _
 |2=>cases h1;cases e;exact x
 |3=>cases h1;cases e;exact .same _
 |4=>cases h1;cases e;exact .same _
 |5=>cases h1;cases e;exact .same _
 |6=>cases h1;cases e;exact y
 |i+7=>cases h1
theorem B1i{x y z:D}(h:NilR x y):NilR (.tuple [x,z]) (.tuple [y,z]):=by
 refine .tuple _ _ rfl fun i d d' h1 e=>?_
 match i with
 |0=>cases h1;cases e;exact h
 |1=>cases h1;cases e;exact .same _
 |i+2=>cases h1
theorem A1q(o n k:Int)(e:Bool)(s:ByteArray):NilR (.agg [.int .i64 o,.int .i64 n,.nilsl,.int .i64 k,.bool e,.str s,.nilsl]) (.agg (B9 (.mk o n ⟨[],k,e⟩ s []))):=by
 rw[u0];exact B27 (.nil 2) (.nil 7)
theorem B28(o n k:Int)(e:Bool)(s:ByteArray)(ks:List Fm):NilR (.agg [.int .i64 o,.int .i64 n,.nilsl,.int .i64 k,.bool e,.str s,.sl 7 (Rw B9 ks)]) (.agg (B9 (.mk o n ⟨[],k,e⟩ s ks))):=by
 rw[u0];exact B27 (.nil 2) (.same _)
theorem B29(o n:Int)(l:LinV)(s:ByteArray):NilR (.agg [.int .i64 o,.int .i64 n,.sl 2 (Rw P2 l.t),.int .i64 l.k,.bool l.e,.str s,.nilsl]) (.agg (B9 (.mk o n l s []))):=by
 rw[u0];exact B27 (.same _) (.nil 7)
theorem fz7{b sz:Nat}{es:List (List D)}{g h j m o p q r u:D}(x:Fz b sz es j m)(y:Fz b sz es r u): ∀(i:Nat) d d',[g,h,j,o,p,q,r][i]? =some d→[g,h,m,o,p,q,u][i]? =some d'→Fz b sz es d d':=by
 intro i d d' h1 e
 match i with
 |0=>cases h1;cases e;exact .same _
 |1=>cases h1;cases e;exact .same _
 |2=>cases h1;cases e;exact x
 |3=>cases h1;cases e;exact .same _
 |4=>cases h1;cases e;exact .same _
 |5=>cases h1;cases e;exact .same _
 |6=>cases h1;cases e;exact y
 |i+7=>cases h1
theorem A9i{Q:D→Heap→Prop}{H:Heap}{n:Nat}{ob:Option Nat}{o m k:Int}{e:Bool}{s:ByteArray}{ks:List Fm}(hn:n=ks.length)(ho:OutAt H 7 (Rw B9 ks) ob)(h:Fin Q (.agg (B9 (.mk o m ⟨[],k,e⟩ s ks))) (L5 H ob)):
  Fin Q (.agg [.int .i64 o,.int .i64 m,.nilsl,.int .i64 k,.bool e,.str s,J8 7 n ob]) H:=by
 rw[u0]at h;cases ob with
 |none=>
  have d:Rw B9 ks= []:=ho;refine D4 ?_ h;rw[d];exact B27 (.nil 2) (.nil 7)
 |some b=>
  have hb:H b=some (.vec 7 (Rw B9 ks)):=ho;subst hn;refine V7 (cs':=[.int .i64 o,.int .i64 m,.sl 2 [],.int .i64 k,.bool e,.str s,.sl 7 (Rw B9 ks)]) hb rfl (fz7 (.nil 2) ?_) h;show Fz b 7 (Rw B9 ks) (.vec b 7 0 ks.length) _;have:=Fz.all (b:=b) (sz:=7) (es:=Rw B9 ks);rwa [D6]at this
theorem C0k{H:Heap}{n:Nat}{ob:Option Nat}{o m k:Int}{e:Bool}{s:ByteArray}{ks:List Fm}(hn:n=ks.length)(ho:OutAt H 7 (Rw B9 ks) ob):
  View H (.agg [.int .i64 o,.int .i64 m,.nilsl,.int .i64 k,.bool e,.str s,J8 7 n ob]) (.agg (B9 (.mk o m ⟨[],k,e⟩ s ks))):=by
 rw[u0];refine .agg _ _ rfl fun i d d' h1 g=>?_
 match i with
 |0=>cases h1;cases g;exact .same _
 |1=>cases h1;cases g;exact .same _
 |2=>cases h1;cases g;exact .nil 2
 |3=>cases h1;cases g;exact .same _
 |4=>cases h1;cases g;exact .same _
 |5=>cases h1;cases g;exact .same _
 |6=>
  cases h1;cases g;cases ob with
  |none=>rw[show Rw B9 ks= []from ho];exact .nil 7
  |some b=>exact .vec b 7 n _ _ ho (by rw[D6];exact hn) rfl (fun i e e' h1 g=>by rw[h1]at g;cases g;rfl) (fun i e e' j d d' h1 g p h=>by rw[h1]at g;cases g;rw[p]at h;cases h;exact .same _)
 |i+7=>cases h1
end Go.Fo
namespace Go.Fo
open Go Go.Av Go.Lin
@[go_sem] theorem D1E(o n:Int)(l:LinV)(s:ByteArray)(ks:List Fm):(Fm.mk o n l s ks).op=o:=rfl
@[go_sem] theorem D1Q(o n:Int)(l:LinV)(s:ByteArray)(ks:List Fm):(Fm.mk o n l s ks).n=n:=rfl
@[go_sem] theorem D1R(o n:Int)(l:LinV)(s:ByteArray)(ks:List Fm):(Fm.mk o n l s ks).l=l:=rfl
@[go_sem] theorem D1S(o n:Int)(l:LinV)(s:ByteArray)(ks:List Fm):(Fm.mk o n l s ks).s=s:=rfl
@[go_sem] theorem D1F(o n:Int)(l:LinV)(s:ByteArray)(ks:List Fm):(Fm.mk o n l s ks).ks=ks:=rfl
end Go.Fo
namespace Go.Proofs.YtibphjonmikciaaGreatDoor
open Go Go.Av Go.Lin Go.Fo
attribute [local irreducible] ACalls Q4
theorem C4Y{Q}(p:LTm→Bool)(l:List LTm)(hl:l.length≤1000000000000000)(g:Nat)(first cap:List D)(H:Heap)
  (i: ∀a∈l,∀(Q:D→Heap→Prop),Q (.bool (p a)) H→D8 g (first++[.agg (P2 a)]++cap) H Q) (h:Q (.int .i64 (X8 p l)) H):
  D8 136 [.sl 2 (Rw P2 l),.fn (.func g) first cap] H Q:=by
 refine A8 [] A5 Tryz.func136 rfl ?_;simp only[go_sem,seval,Tryz.results136];refine C2 [0,1,7] (fun(k:Nat)=>[(8,.int .i64 k)]) (fun(k:Nat)=>H) (fun(k:Nat)=>k≤l.length∧X8 p l=if X8 p (l.drop k)<0 then-1 else X8 p (l.drop k)+k) (fun(k:Nat)=>l.length-k) (0) (⟨D1u _,by have:=A1n p l;rw[List.drop_zero];split<;>omega⟩) (by simp only[go_sem,seval]) (D20 _) ?_;rintro m rfl k ⟨hk,hp⟩;by_cases d:k<l.length
 ·have e:decide ((k:Int)<l.length)=true:=D1b (by omega);rw[A4z p l k d]at hp;repeat' (first|with_reducible apply D1Z|simp only[go_sem,seval,e,A9 _ _ d]|simp(disch:=omega) only[A4,A9,C3]|intro j|with_reducible refine i l[k] (D1n d) _ ?_|omega)
  ·have h1:p l[k]=true:=by assumption
   rw[if_pos h1]at hp;simp only[Int.zero_add,show¬((0:Int)<0)by omega,if_false]at hp;rw[hp]at h;exact D22 h
  ·have h1: ¬p l[k]=true:=by simp_all
   rw[if_neg h1]at hp;exact C1 (k+1) ⟨by omega,by rw[hp];have:=A1n p (l.drop (k+1));split<;>split<;>omega⟩ (by omega) (by(try simp only[go_sem,seval])<;>(try simp(disch:=omega) [A4])) (D20 _)
 ·have e:decide ((k:Int)<l.length)=false:=D1c (by omega);rw[List.drop_eq_nil_of_le (by omega),X8]at hp;repeat' simp only[go_sem,seval,e]
  simp only[show ((-1:Int)<0)by omega,if_true]at hp;rw[hp]at h;exact D22 h
theorem C4Z{Q}(p:LTm→Bool)(l:List LTm)(hl:l.length≤1000000000000000)(g:Nat)(first cap:List D)(H:Heap)
  (d: ∀a∈l,∀(Q:D→Heap→Prop),Q (.bool (p a)) H→D8 g (first++[.agg (P2 a)]++cap) H Q) (h:Q (.bool (l.any p)) H):
  D8 97 [.sl 2 (Rw P2 l),.fn (.func g) first cap] H Q:=by
 refine A8 [] A5 Tryz.func97 rfl ?_;simp only[go_sem,seval,Tryz.results97];rw[←A4C]at h;repeat' (first|simp only[go_sem,seval]|with_reducible refine C4Y p l hl g first cap _ d ?_)
 exact D22 h
theorem C4a{Q}(p:Fm→Bool)(l:List Fm)(hl:l.length≤1000000000000000)(g:Nat)(first cap:List D)(H:Heap)
  (i: ∀(k:Nat) (hk:k<l.length),(∀(j:Nat) (hj:j<k),p l[j]=false)→∀(Q:D→Heap→Prop),Q (.bool (p l[k])) H→D8 g (first++[.agg (B9 l[k])]++cap) H Q) (h:Q (.int .i64 (X8 p l)) H):
  D8 140 [.sl 7 (Rw B9 l),.fn (.func g) first cap] H Q:=by
 refine A8 [] A5 Tryz.func140 rfl ?_;simp only[go_sem,seval,Tryz.results140];refine C2 [0,1,7] (fun(k:Nat)=>[(8,.int .i64 k)]) (fun(k:Nat)=>H) (fun(k:Nat)=>k≤l.length∧(∀(j:Nat) (hj:j<l.length),j<k→p l[j]=false)∧X8 p l=if X8 p (l.drop k)<0 then-1 else X8 p (l.drop k)+k) (fun(k:Nat)=>l.length-k) (0) (⟨D1u _,fun _ _ h=>absurd h (D2p _),by have:=A1n p l;rw[List.drop_zero];split<;>omega⟩) (by simp only[go_sem,seval]) (D20 _) ?_;rintro q rfl k ⟨hk,hb,hp⟩;by_cases d:k<l.length
 ·have e:decide ((k:Int)<l.length)=true:=D1b (by omega);rw[A4z p l k d]at hp;repeat' (first|with_reducible apply D1Z|simp only[go_sem,seval,e,A9 _ _ d]|simp(disch:=omega) only[A4,A9,C3]|intro m|with_reducible refine i k d (fun j hj=>hb j (by omega) hj) _ ?_|omega)
  ·have h1:p l[k]=true:=by assumption
   rw[if_pos h1]at hp;simp only[Int.zero_add,show¬((0:Int)<0)by omega,if_false]at hp;rw[hp]at h;exact D22 h
  ·have h1: ¬p l[k]=true:=by simp_all
   rw[if_neg h1]at hp;refine C1 (k+1) ⟨by omega,fun j hj o=>?_,by rw[hp];have:=A1n p (l.drop (k+1));split<;>split<;>omega⟩ (by omega) (by(try simp only[go_sem,seval])<;>(try simp(disch:=omega) [A4])) (D20 _);rcases Nat.lt_or_ge j k with g|g
   ·exact hb j hj g
   ·have:j=k:=by omega
    subst this;simpa using h1
 ·have e:decide ((k:Int)<l.length)=false:=D1c (by omega);rw[List.drop_eq_nil_of_le (by omega),X8]at hp;repeat' simp only[go_sem,seval,e]
  simp only[show ((-1:Int)<0)by omega,if_true]at hp;rw[hp]at h;exact D22 h
theorem A9j{Q}(p:Fm→Bool)(l:List Fm)(hl:l.length≤1000000000000000)(g:Nat)(first cap:List D)(H:Heap)
  (d: ∀(k:Nat) (hk:k<l.length),(∀(j:Nat) (hj:j<k),p l[j]=false)→∀(Q:D→Heap→Prop),Q (.bool (p l[k])) H→D8 g (first++[.agg (B9 l[k])]++cap) H Q) (h:Q (.bool (l.any p)) H):
  D8 108 [.sl 7 (Rw B9 l),.fn (.func g) first cap] H Q:=by
 refine A8 [] A5 Tryz.func108 rfl ?_;simp only[go_sem,seval,Tryz.results108];rw[←A4C]at h;repeat' (first|simp only[go_sem,seval]|with_reducible refine C4a p l hl g first cap _ d ?_)
 exact D22 h
end Go.Proofs.YtibphjonmikciaaGreatDoor
namespace Go.Fo
open Go Go.Av Go.Lexs Go.Lin
abbrev badS:ByteArray:=⟨#[40,41,44,33,38,124,63]⟩
theorem A7G(c:UInt8):a8 (c.toNat:Int)= !(B badS).contains c:=by
 have key: ∀n:Fin 256,a8 ((UInt8.ofNat n.val).toNat:Int)= !(B badS).contains (UInt8.ofNat n.val):=by decide+kernel
 have:=key ⟨c.toNat,c.toNat_lt⟩;simpa using this
theorem A8b: ∀l:List UInt8,Lib.containsAny l (B badS)= !l.all (ofB a8)
 | []=>rfl
 |b::l=>by
  have d:=A8b l;unfold Lib.containsAny at d⊢;rw[Lib.indexAny,D2c];have e:ofB a8 b= !(B badS).contains b:=A7G b;rw[e];have g:=Lib.indexAny_ge (B badS) l;by_cases h:(B badS).contains b=true
  ·rw[if_pos h,h];rfl
  ·rw[if_neg h];have i:(B badS).contains b=false:=by simpa using h
   rw[i,D2y,Bool.true_and,←d];apply D2C.2;split
   ·rename_i q;have:=beq_iff_eq.1 q;omega
   ·rename_i q;have:Lib.indexAny l (B badS)≠ -1:=fun e=>q (by rw[e];rfl);omega
def plainK(f:Fm)(tx ln:Bool)(kk:Int):Bool:=(tx||decide (f.s.size=0))&&(ln||lin0 f.l)&&(decide (kk<0)||decide ((f.ks.length:Int)=kk))
end Go.Fo
namespace Go.Proofs.YtibphjonmikciaaGreatDoor
open Go Go.Av Go.Lexs Go.Lin Go.Fo
attribute [local irreducible] ACalls Q4
open Go.RowKit in
theorem C4b{Q}(s:ByteArray)(hs:G5 (B s)=true)(H:Heap)(h:Q (.bool (!(B s).all (ofB a8))) H):D8 137 [.str s,.str badS] H Q:=
 H7 (by kernel_rfl) (fun w vs hl hr i=>by
  obtain⟨a,b,rfl,d,hb⟩:=m0 hl hr;rw[d.str_inv,hb.str_inv];refine(Tryz.strings_ContainsAny_laid s badS w (by have:=A3X hs;omega) (by decide) (fun j b g=>by have:=A6y hs b (D16 g);omega) (fun j b g=>by
   have hm:=D16 g;have key: ∀c∈(badS).data.toList,c.toNat<128:=by decide
   exact key b hm)).mono fun e w' ⟨he,hw⟩=>?_
  refine⟨_,he,hw,?_⟩;rw[show Lib.containsAny s.data.toList badS.data.toList= !(B s).all (ofB a8)from A8b (B s)];exact .bool _) h
theorem B1j{Q}(s:ByteArray)(H:Heap)(h:Q (.bool (plainB s)) H):D8 99 [.str s] H Q:=by
 refine A8 [] A5 Tryz.func99 rfl ?_;simp only[go_sem,seval,Tryz.results99];unfold plainB at h;cases hn:G5 (B s)with
 |false=>
  rw[hn]at h;repeat' (first|simp only[go_sem,seval,hn]|with_reducible refine O9 _ _ ?_)
  exact D22 h
 |true=>
  rw[hn]at h;repeat' (first|simp only[go_sem,seval,hn]|with_reducible refine O9 _ _ ?_|with_reducible refine C4b s hn _ ?_)
  exact D22 (by simpa using h)
theorem C7w{Q}(t:LTm)(H:Heap)(h:Q (.bool (!plainB t.v)) H):D8 98 [.agg (P2 t)] H Q:=by
 refine A8 [] A5 Tryz.func98 rfl ?_;simp only[go_sem,seval,Tryz.results98];repeat' (first|simp only[go_sem,seval]|intro d|with_reducible refine B1j _ _ ?_)
 exact D21 (by simp only[D7,C9,D0]at* <;>grind) h
theorem B1k{Q}(s:ByteArray)(hs:s.size≤140737488351232)(H:Heap)(h:Q (.bool (plainB s)) H):D8 100 [.str s] H Q:=by
 refine A8 [] A5 Tryz.func100 rfl ?_;simp only[go_sem,seval,Tryz.results100];have hl:=M8 s;refine C2 [0] (fun(i:Nat)=>[(3,.int .i64 i)]) (fun(i:Nat)=>H) (fun(i:Nat)=>i≤s.size∧((B s).take i).all (ofB a8)=true) (fun(i:Nat)=>s.size-i) (0) (⟨D1u _,by simp⟩) (by simp only[go_sem,seval]) (D20 _) ?_;rintro Ec rfl i ⟨hi,m⟩;by_cases U:i<s.size
 ·have p:decide ((i:Int)<s.size)=true:=D1b (by omega);have q:(i:Int)<s.size:=by omega
  have o:i<(B s).length:=by omega
  obtain⟨x,hx⟩: ∃x,x=I3 (B s) i:=⟨_,rfl⟩
  have r:a8 x= !(B badS).contains (B s)[i]:=by rw[hx,←A7G];unfold I3;simp[D1q o]
  have u:Q4 s (i:Int)=x:=by rw[hx];exact A3t s i
  repeat' (first|simp only[go_sem,seval,p,q]|intro z)
  rename_i b;have hb:=z;clear z;have V:([[D.int .u8 40],[D.int .u8 41],[D.int .u8 44],[D.int .u8 33],[D.int .u8 38],[D.int .u8 124],[D.int .u8 63]]:List (List D))=E7 badS:=by rfl
  rw[V];have I:(E7 badS).length=7:=by rfl
  refine B4z _ _ badS (by kernel_rfl) rfl (by decide) (A0 _ _) ?_;rw[E6 hb];repeat' simp only[go_sem,seval,I]
  have bl:(B badS).length=7:=rfl;have W:x=((B s)[i].toNat:Int):=by rw[hx];unfold I3;simp[D1q o]
  refine C2 [0,3,13,14] (fun(j:Nat)=>[(15,.int .i64 j)]) (fun(j:Nat)=>H) (fun(j:Nat)=>j≤7∧∀k,k<j→I3 (B badS) k≠x) (fun(j:Nat)=>7-j) (0) (⟨D1u _,fun _ h=>absurd h (D2p _)⟩) (by simp only[go_sem,seval]) (D20 _) ?_;rintro X rfl j ⟨hj,A⟩;by_cases C:j<7
  ·have d:decide ((j:Int)<7)=true:=D1b (by omega);have G:(j:Int)<7:=by omega
   have J:=A3R badS j (show j<badS.size from C);have L:=V2 badS j (show j<badS.size from C);obtain⟨y,M⟩: ∃y,y=I3 (B badS) j:=⟨_,rfl⟩
   rw[←M]at J L;by_cases c:x=y
   ·have Y:plainB s=false:=by
     unfold plainB;have hc:a8 x=false:=by
      rw[r];have:(B badS).contains (B s)[i]=true:=by
       rw[List.contains_iff_mem];have h1:(B s)[i].toNat=((B badS)[j]'(by omega)).toNat:=by
        have:I3 (B badS) j=(((B badS)[j]'(by omega)).toNat:Int):=by unfold I3;simp[D1q (show j<(B badS).length by omega)]
        rw[this]at M;omega
       rw[UInt8.toNat_inj.1 h1];exact D1n _
      rw[this];rfl
     rw[y4 a8 (B s) i o (by rw[←hx];exact hc),Bool.and_false]
    rw[Y]at h;have O:decide (x=y)=true:=D1b c;repeat' (first|with_reducible apply D1Z|simp only[go_sem,seval,d,G,J,L,u,q,O,I]|omega)
    exact D22 h
   ·have O:decide (x=y)=false:=D1c c;repeat' (first|with_reducible apply D1Z|simp only[go_sem,seval,d,G,J,L,u,q,O,I]|simp(disch:=omega) only[A4,C3,V2]|omega)
    refine C1 (j+1) ⟨by omega,fun k hk=>?_⟩ (by omega) (by(try simp only[go_sem,seval])<;>(try simp(disch:=omega) [A4])) (D20 _);rcases Nat.lt_or_ge k j with g|g
    ·exact A k g
    ·have:k=j:=by omega
     subst this;exact fun e=>c ((M.trans e).symm)
  ·have d:decide ((j:Int)<7)=false:=D1c (by omega);have T:j=7:=by omega
   subst T;have hc:a8 x=true:=by
    rw[r];have:(B badS).contains (B s)[i]=false:=by
     rw[←D2v,List.contains_iff_mem];intro hm;obtain⟨k,hk,e⟩:=List.getElem_of_mem hm;refine A k (by omega) ?_;rw[W,←e];unfold I3;simp[D1q hk]
    rw[this];rfl
   repeat' (first|simp only[go_sem,seval,d,I]|simp(disch:=omega) only[A4,C3,V2])
   exact C1 (i+1) ⟨by omega,by rw[j8 _ _ _ o,m,←hx,hc];rfl⟩ (by omega) (by(try simp only[go_sem,seval])<;>(try simp(disch:=omega) [A4])) (D20 _)
 ·have p:decide ((i:Int)<s.size)=false:=D1c (by omega);rw[D1o (by omega)]at m;unfold plainB at h;rw[m,Bool.and_true]at h;repeat' (first|simp only[go_sem,seval,p]|with_reducible refine A0i s (by omega) _ ?_)
  exact D22 h
set_option maxHeartbeats 2000000 in
theorem B1l{Q}(f:Fm)(g:FmFit f)(d e:Bool)(i:Int)(b:Nat)(H:Heap)(hb:H b=some (.box (B9 f)))(h:Q (.bool (plainK f d e i)) H):D8 95 [.bool d,.bool e,.int .i64 i,.box b 0] H Q:=by
 refine A8 [] A5 Tryz.func95 rfl ?_;simp only[go_sem,seval,Tryz.results95];have m:=g.kl;have o:=g.lin.len;have d1:decide (f.s.size=0)=decide (B f.s= []):=by
  rw[←M8];exact D2C.2 List.length_eq_zero_iff
 have j:decide ((f.l.t.length:Int)=0)=decide (f.l.t= []):=D2C.2 (by rw[←List.length_eq_zero_iff];omega);unfold plainK lin0 at h;rw[d1,←j]at h;clear d1 j;cases d<;>cases e
 all_goals
  repeat' (first|with_reducible apply D1Z|simp only[go_sem,seval,hb]|intro p)
  all_goals (refine D22 ?_;simp_all)
end Go.Proofs.YtibphjonmikciaaGreatDoor
namespace Go.Fo
open Go Go.Av Go.Lexs Go.Lin
def ovr(S H:Heap):Heap:=fun i=>match S i with|some o=>some o|none=>H i
theorem A0z{S H:Heap}{b:Nat}{o:Av.Obj}(h:S b=some o):ovr S H b=some o:=by unfold ovr;rw[h]
theorem A2y{S H:Heap}{b:Nat}(h:S b=none):ovr S H b=H b:=by unfold ovr;rw[h]
theorem A1M{S H:Heap}{b:Nat}(h:ovr S H b=none):S b=none∧H b=none:=by
 unfold ovr at h;cases g:S b with
 |none=>rw[g]at h;exact⟨rfl,h⟩
 |some o=>rw[g]at h;cases h
theorem A9k{S H:Heap}{b:Nat}{o:Av.Obj}(h:S b=none):(ovr S H).set b o=ovr S (H.set b o):=by
 funext i
 unfold ovr Heap.set;by_cases e:i=b
 ·subst e;simp[h]
 ·simp[e]
theorem B3A{S H H':Heap}(h:H.Le H'):(ovr S H).Le (ovr S H'):=fun k o hk=>by
 unfold ovr at hk⊢;cases g:S k with
 |none=>rw[g]at hk;exact h _ _ hk
 |some x=>rw[g]at hk;exact hk
structure Vis(P:Program)(σ :Type)(g:Nat)(cap:List D)(St: σ →Heap)(step: σ →Fm→Int→ σ)(I: σ →Prop)(Hb:Heap→Prop):Prop where
 dom: ∀a a' i,St a i=none→St a' i=none
 inv: ∀a f d,I a→I (step a f d)
 base: ∀H b (o:Av.Obj),Hb H→H b=none→Hb (H.set b o)
 call: ∀a f d (H:Heap) (Q:D→Heap→Prop),I a→Hb H→FmFit f→Q (.tuple []) (ovr (St (step a f d)) H)→ACalls P g (.agg (B9 f):: .int .i64 d::cap) (ovr (St a) H) Q
end Go.Fo
namespace Go.Proofs.YtibphjonmikciaaGreatDoor
open Go Go.Av Go.Lexs Go.Lin Go.Fo
attribute [local irreducible] ACalls Q4
theorem C4c{σ :Type}{g:Nat}{cap:List D}{St: σ →Heap}{step: σ →Fm→Int→ σ}{I: σ →Prop}{Hb:Heap→Prop}(V:Vis Tryz.prog σ g cap St step I Hb)(n:Nat): ∀{Q} (f:Fm) (hn:SizeOf.sizeOf f≤n) (x:FmFit f) (d:Int) (a: σ) (y:I a) (H:Heap) (G:Hb H) (h:Q (.tuple []) (ovr (St (foldF step f d a)) H)),
  D8 53 [.agg (B9 f),.int .i64 d,.fn (.func g) [] cap] (ovr (St a) H) Q:=by
 induction n with
 |zero=>intro Q f hn;cases f;simp at hn
 |succ n O=>
 intro Q f hn x d a y H G h;refine A8 [] A5 Tryz.func53 rfl ?_;simp only[go_sem,seval,Tryz.results53];have T:=x.kl;rw[A2N]at h;intro o z;obtain⟨J,L⟩:=A1M z;rw[A9k J];have j:=V.base H o (.box (B9 f)) G L;have q:H.Le (H.set o (.box (B9 f))):=A2 L;have e3: ∀a',ovr (St a') (H.set o (.box (B9 f))) o=some (.box (B9 f)):=fun a'=>by rw[A2y (V.dom a a' o J),A0]
 generalize H.set o (.box (B9 f))=Bs at j q e3⊢;repeat' (first|simp only[go_sem,seval,e3]|with_reducible refine V.call a f d Bs _ y j x ?_)
 refine C2 [1,2,13,14] (fun(p:Nat× σ)=>[(15,.int .i64 p.1)]) (fun(p:Nat× σ)=>ovr (St p.2) Bs) (fun(p:Nat× σ)=>p.1≤f.ks.length∧I p.2∧foldF.foldK step (f.ks.drop p.1) (IntKind.i64.wrap (d+1)) p.2=foldF.foldK step f.ks (IntKind.i64.wrap (d+1)) (step a f d)) (fun(p:Nat× σ)=>f.ks.length-p.1) ((0,step a f d)) (⟨D1u _,V.inv _ _ _ y,rfl⟩) (by simp only[go_sem,seval]) (D20 _) ?_;rintro Ec rfl ⟨i,c⟩ ⟨U,hc,r⟩;simp only at U hc r;by_cases e:i<f.ks.length
 ·have m:decide ((i:Int)<f.ks.length)=true:=D1b (by omega);have A:(i:Int)<f.ks.length:=by omega
  have hm:=D1n e;rw[D14 e,foldF.foldK]at r;repeat' (first|with_reducible apply D1Z|simp only[go_sem,seval,m,A,A9 _ _ e,C0 _ _ e]|intro u|omega)
  rename_i W;have X:=u;clear u;obtain⟨Y,M⟩:=A1M X;rw[A9k Y];have C:=V.base Bs W (.box (B9 f.ks[i])) j M;refine O f.ks[i] (by have:=S3 hm;omega) (x.kid hm) _ c hc _ C ?_;repeat' (first|simp only[go_sem,seval]|simp(disch:=omega) only[A4,A9,C3])
  exact C1 (i+1,foldF step f.ks[i] (IntKind.i64.wrap (d+1)) c) ⟨by simp only[];omega,B5E step I V.inv _ _ _ hc,r⟩ (by simp only[];omega) (by(try simp only[go_sem,seval])<;>(try simp(disch:=omega) [A4])) (B3A (A2 M))
 ·have m:decide ((i:Int)<f.ks.length)=false:=D1c (by omega);rw[List.drop_eq_nil_of_le (by omega),foldF.foldK]at r;rw[←r]at h;repeat' simp only[go_sem,seval,m]
  exact D21 (B3A q) h
theorem B3B{σ :Type}{g:Nat}{cap:List D}{St: σ →Heap}{step: σ →Fm→Int→ σ}{I: σ →Prop}{Hb:Heap→Prop}(V:Vis Tryz.prog σ g cap St step I Hb){Q}(f:Fm)(e:FmFit f)(d:Int)(a: σ)(i:I a)(H:Heap)(j:Hb H)(h:Q (.tuple []) (ovr (St (foldF step f d a)) H)):
  D8 53 [.agg (B9 f),.int .i64 d,.fn (.func g) [] cap] (ovr (St a) H) Q:=C4c V _ f (D1t _) e d a i H j h
end Go.Proofs.YtibphjonmikciaaGreatDoor
namespace Go.Fo
open Go Go.Av Go.Lexs Go.Lin
def tcF:List LTm→Int→Int
 | [],left=>left
 |t::l,left=>tcF l (IntKind.i64.wrap (left-t.v.size / 100))
def V8:Fm→Int→Int
 | .mk _ _ l s ks,left=>cntK ks (tcF l.t (IntKind.i64.wrap (left-IntKind.i64.wrap (IntKind.i64.wrap (1+s.size / 100)+l.t.length))))
where cntK:List Fm→Int→Int
 | [],left=>left
 |f::fs,left=>if left<0 then left else cntK fs (V8 f left)
theorem B4L(f:Fm)(left:Int):V8 f left=V8.cntK f.ks (tcF f.l.t (IntKind.i64.wrap (left-IntKind.i64.wrap (IntKind.i64.wrap (1+f.s.size / 100)+f.l.t.length)))):=by cases f;rw[V8];rfl
def B5g:List Fm→Int→Int
 | [],n=>n
 |f::l,n=>B5g l (V8 f n)
theorem C4d(l:List LTm): ∀(left:Int),(∀t∈l,t.v.size≤140737488351232)→ -100000000000000000+10000000000000*(l.length:Int)≤left→left≤1000000→tcF l left≤left∧left-2000000000000*(l.length:Int)≤tcF l left:=by
 induction l with
 |nil=>intro left _ _ _;rw[tcF];simp only[D1g];omega
 |cons t l d=>
  intro left h h0 h1;have e:=h t (D1k ..);simp only[D1e]at h0⊢;have w:IntKind.i64.wrap (left-(t.v.size:Int) / 100)=left-(t.v.size:Int) / 100:=A4 (by omega) (by omega);rw[tcF,w];have:=d (left-(t.v.size:Int) / 100) (fun x hx=>h x (D1r _ hx)) (by omega) (by omega);omega
theorem B4M{f:Fm}(h:D5 f=true):f.l.t.length≤12:=by
 cases B7a h with
 |lin l hv hp=>exact(K7 hv).len
 |_=>simp[Fm.l,nilL]
theorem C0l: ∀(f:Fm) (left:Int),FmFit f→G8 D5 f=true→0≤left→left≤1000000→V8 f left≤left∧(0≤V8 f left→(J5 f:Int)≤left-V8 f left):=by
 intro f
 induction f using R4 with
 |h o n l s ks i=>
  intro left fa hf h0 h1;have e:=B4M (f:=.mk o n l s ks) (by rw[A1k,D1m]at hf;exact hf.1);have hk: ∀k∈ks,G8 D5 k=true:=fun k hk=>N9 (f:=.mk o n l s ks) hf hk;have j: ∀k∈ks,FmFit k:=fun k hk=>fa.kid hk;have hs:=fa.txt;have e:l.t.length≤12:=e;have hs:s.size≤140737488351232:=hs;rw[B4L,K5];show V8.cntK ks (tcF l.t (IntKind.i64.wrap (left-IntKind.i64.wrap (IntKind.i64.wrap (1+s.size / 100)+l.t.length))))≤left∧(0≤V8.cntK ks (tcF l.t (IntKind.i64.wrap (left-IntKind.i64.wrap (IntKind.i64.wrap (1+s.size / 100)+l.t.length))))→((1+l.t.length+J5.wtL ks:Nat):Int)≤left-V8.cntK ks (tcF l.t (IntKind.i64.wrap (left-IntKind.i64.wrap (IntKind.i64.wrap (1+s.size / 100)+l.t.length)))));have p:IntKind.i64.wrap (1+(s.size:Int) / 100)=1+(s.size:Int) / 100:=A4 (by omega) (by omega);have q:IntKind.i64.wrap (1+(s.size:Int) / 100+l.t.length)=1+(s.size:Int) / 100+l.t.length:=A4 (by omega) (by omega);have r:IntKind.i64.wrap (left-(1+(s.size:Int) / 100+l.t.length))=left-(1+(s.size:Int) / 100+l.t.length):=A4 (by omega) (by omega);rw[p,q,r];have u:=C4d l.t (left-(1+(s.size:Int) / 100+l.t.length)) (fun t e=>fa.lin.str t e) (by omega) (by omega);generalize tcF l.t (left-(1+(s.size:Int) / 100+l.t.length))=x at u;have key: ∀(m:List Fm),(∀k∈m,k∈ks)→∀x:Int,x≤1000000→V8.cntK m x≤x∧(0≤V8.cntK m x→(J5.wtL m:Int)≤x-V8.cntK m x):=by
   intro m
   induction m with
   |nil=>intro _ x _;exact⟨Int.le_refl _,fun _=>by simp[V8.cntK,J5.wtL]⟩
   |cons f fs g=>
    intro hm x hx;have d:=hm f (D1k ..);rw[V8.cntK,J5.wtL];split
    ·exact⟨Int.le_refl _,fun h=>by omega⟩
    ·have y:=i f d x (j f d) (hk f d) (by omega) hx;have z:=g (fun k hk=>hm k (D1r _ hk)) (V8 f x) (by omega);refine⟨by omega,fun h=>?_⟩;have:=z.2 h;have:=y.2 (by omega);push_cast;omega
  have A:=key ks (fun _ h=>h) x (by omega);refine⟨by omega,fun h=>?_⟩;have:=A.2 h;push_cast;omega
def VOk(f:Fm):Prop:=J5 f≤1000000∨G8 D5 f=false
theorem C0m{f:Fm}(d:FmFit f)(h:0≤V8 f 600):VOk f∧(G8 D5 f=true→J5 f≤600):=by
 by_cases g:G8 D5 f=true
 ·have:=(C0l f 600 d g (by decide) (by decide)).2 h;exact⟨.inl (by omega),fun _=>by omega⟩
 ·exact⟨.inr (by simpa using g),fun e=>absurd e g⟩
theorem B3C(l:List LTm):(!l.any fun t=> !plainB t.v)=l.all fun t=>plainB t.v:=by
 induction l with
 |nil=>rfl
 |cons t l d=>rw[D2e,D2c,←d];cases plainB t.v<;>simp
theorem B4N(l:List Fm):l.isEmpty=decide ((l.length:Int)=0):=by
 cases l with
 |nil=>rfl
 |cons x l=>simp only[List.isEmpty_cons,D1e];symm;apply D1c;omega
theorem B4O(l:List Fm):decide (l.length=1)=decide ((l.length:Int)=1):=D2C.2 (by omega)
theorem B8D(f:Fm):D5 f=if f.op=1 then((decide (f.n=0)||decide (f.n=1))&&plainK f false false 0)
  else if f.op=2 then(decide (f.n=0)&&plainK f false true 0&&validL f.l&& !f.l.t.any fun t=> !plainB t.v)
  else if f.op=3 then(decide (f.n=0)&&plainK f true false 0&&plainB f.s)
  else if f.op=4 then(decide (f.n=0)&&plainK f false false 1)
  else if f.op=5∨f.op=6 then(decide (f.n=0)&&plainK f false false (-1))else false:=by
 unfold D5 plainK;rw[B4N,B4O,B3C];split
 ·simp[Bool.and_assoc]
 ·split
  ·simp only[Bool.false_or,Bool.true_or,Bool.and_true,Int.lt_irrefl,decide_false,Bool.true_and,Bool.and_assoc]
  ·split
   ·simp only[Bool.false_or,Bool.true_or,Bool.and_true,Int.lt_irrefl,decide_false,Bool.true_and,Bool.and_assoc]
   ·split
    ·simp[Bool.and_assoc]
    ·split
     ·simp[Bool.and_assoc]
     ·rfl
end Go.Fo
namespace Go.Proofs.YtibphjonmikciaaGreatDoor
open Go Go.Av Go.Lexs Go.Lin Go.Fo
attribute [local irreducible] ACalls Q4
set_option maxHeartbeats 4000000 in
theorem D0E{Q}(f:Fm)(i:FmFit f)(H:Heap)(h:Q (.bool (D5 f)) H):D8 55 [.agg (B9 f)] H Q:=by
 refine A8 [] A5 Tryz.func55 rfl ?_;simp only[go_sem,seval,Tryz.results55];have C:=i.lin.len;rw[B8D]at h;intro g h1;have e1:(H.set g (.box (B9 f))) g=some (.box (B9 f)):=A0 _ _;have d:H.Le (H.set g (.box (B9 f))):=A2 h1;generalize H.set g (.box (B9 f))=Bs at e1 d⊢;have q:=fun(Q:D→Heap→Prop)=>B1l (Q:=Q) f i false false 0 g Bs e1;have r:=fun(Q:D→Heap→Prop)=>B1l (Q:=Q) f i false true 0 g Bs e1;have u:=fun(Q:D→Heap→Prop)=>B1l (Q:=Q) f i true false 0 g Bs e1;have x:=fun(Q:D→Heap→Prop)=>B1l (Q:=Q) f i false false 1 g Bs e1;have m:=fun(Q:D→Heap→Prop)=>B1l (Q:=Q) f i false false (-1) g Bs e1;have y:=fun(Q:D→Heap→Prop)=>A9U (Q:=Q) f.l i.lin Bs;have z:=fun(Q:D→Heap→Prop)=>C4Z (Q:=Q) (fun t=> !plainB t.v) f.l.t (by omega) 98 [] [] Bs (fun a T Q hq=>C7w a Bs hq);have A:=fun(Q:D→Heap→Prop)=>B1j (Q:=Q) f.s Bs;generalize plainK f false false 0=U at h q;generalize plainK f false true 0=V at h r;generalize plainK f true false 0=W at h u;generalize plainK f false false 1=X at h x;generalize plainK f false false (-1)=Y at h m;generalize validL f.l=v1 at h y;generalize (f.l.t.any fun t=> !plainB t.v)=v2 at h z;generalize plainB f.s=v3 at h A;by_cases o1:f.op=1
 ·rw[if_pos o1]at h;repeat' (first|with_reducible apply D1Z|simp only[go_sem,seval,e1,o1]|intro e|with_reducible refine q _ ?_)
  all_goals (refine D21 d ?_;simp_all)
 rw[if_neg o1]at h;by_cases o2:f.op=2
 ·rw[if_pos o2]at h;repeat' (first|with_reducible apply D1Z|simp only[go_sem,seval,e1,o2]|intro e|with_reducible refine r _ ?_|with_reducible refine y _ ?_|with_reducible refine z _ ?_)
  all_goals (refine D21 d ?_;simp_all)
 rw[if_neg o2]at h;by_cases o3:f.op=3
 ·rw[if_pos o3]at h;repeat' (first|with_reducible apply D1Z|simp only[go_sem,seval,e1,o3]|intro e|with_reducible refine u _ ?_|with_reducible refine A _ ?_)
  all_goals (refine D21 d ?_;simp_all)
 rw[if_neg o3]at h;by_cases j:f.op=4
 ·rw[if_pos j]at h;repeat' (first|with_reducible apply D1Z|simp only[go_sem,seval,e1,j]|intro e|with_reducible refine x _ ?_)
  all_goals (refine D21 d ?_;simp_all)
 rw[if_neg j]at h;by_cases o:f.op=5
 ·rw[if_pos (.inl o)]at h;repeat' (first|with_reducible apply D1Z|simp only[go_sem,seval,e1,o]|intro e|with_reducible refine m _ ?_)
  all_goals (refine D21 d ?_;simp_all)
 by_cases p:f.op=6
 ·rw[if_pos (.inr p)]at h;repeat' (first|with_reducible apply D1Z|simp only[go_sem,seval,e1,p]|intro e|with_reducible refine m _ ?_)
  all_goals (refine D21 d ?_;simp_all)
 rw[if_neg (by omega)]at h;have G:decide (f.op=1)=false:=D1c o1;have I:decide (f.op=2)=false:=D1c o2;have J:decide (f.op=3)=false:=D1c o3;have L:decide (f.op=4)=false:=D1c j;have M:decide (f.op=5)=false:=D1c o;have O:decide (f.op=6)=false:=D1c p;repeat' (first|with_reducible apply D1Z|simp only[go_sem,seval,e1,G,I,J,L,M,O]|intro e|omega)
 all_goals exact D21 d h
end Go.Proofs.YtibphjonmikciaaGreatDoor
namespace Go.Av
section
variable {P:Program} {ops:Array Oper}
def C7y(P:Program)(o:Oper)(K:Kg)(F:FEnv)(H:Heap):Prop:=o.guard=none∧D1 P F.ev H (fun d H'=>K (F.put o.dst d) H') o.op
def C0n(P:Program)(ops:Array Oper)(K:Kg):Nat→Array Bool→Kg
 |0,listed=>fun F H=>Region.ready .any ops listed= []∧K F H
 |fuel+1,listed=>fun F H=>(Region.ready .any ops listed= []→K F H)∧∀i∈Region.ready .any ops listed,∃o,ops[i]? =some o∧C7y P o (C0n P ops K fuel (listed.setIfInBounds i true)) F H
theorem B3D{N:Nat}{w0:World}{H0:Heap}{o:Oper}{K:Kg}{F:FEnv}{H:Heap}{a:Act}{w:World}(q: ∀t,o.dst=some t→t<N)(h:C7y P o K F H)(hst:StO N w0 H0 F H a w):
  opSem P none o a w fun v w'=>∃p H',StO N w0 H0 p H' (a.put o.dst v) w'∧K p H':=by
 refine(O2 (o:=o) hst.sat hst.evR h.2).mono fun v w' hp=>?_;obtain⟨d,H',r,u,j,m,hk⟩:=hp;refine⟨F.put o.dst d,H',⟨?_,?_,fun i=>?_,u,hst.ext.trans hst.frm j,hst.frm.trans hst.ext.size m⟩,hk⟩
 ·cases e:o.dst<;>simp[Act.put,hst.size]
 ·cases e:o.dst<;>simp[Act.put,hst.defers]
 ·cases e:o.dst with
  |none=>exact(hst.env i).mono j m
  |some t=>
   have x:=q t e;simp only[FEnv.put];by_cases g:t=i
   ·subst g;rw[if_pos rfl];have:(a.put (some t) v).eval (.tmp t)=v:=by
     have y:t<a.tmps.size:=by rw[hst.size];exact x
     simp[Act.eval,Act.put,y]
    rw[this];exact r
   ·rw[if_neg g];have:(a.put (some t) v).eval (.tmp i)=a.eval (.tmp i):=by
     simp[Act.eval,Act.put,D2D g]
    rw[this];exact(hst.env i).mono j m
theorem A7H{N:Nat}{w0:World}{H0:Heap}{K:Kg}{Q:Exit→Act→World→Prop}(p: ∀o∈ops.toList,∀t,o.dst=some t→t<N)
  (m: ∀F H a w,StO N w0 H0 F H a w→K F H→Q .normal a w): ∀(fuel:Nat) (d:Array Bool) (F:FEnv) (H:Heap) (a:Act) (w:World),
  C0n P ops K fuel d F H→StO N w0 H0 F H a w→Go.wpAny P .any ops Q fuel d a w
 |0,_,F,H,a,w,h,hst=>⟨h.1,m _ _ _ _ hst h.2⟩
 |fuel+1,d,F,H,a,w,h,hst=>⟨fun q=>m _ _ _ _ hst (h.1 q),fun i r=>by
   obtain⟨o,ho,h1⟩:=h.2 i r;unfold Go.wpOp;split
   ·rename_i hn;rw[hn]at ho;cases ho
   ·rename_i o' e;rw[ho]at e;cases e;have g:o∈ops.toList:=by rw[D2E];exact Array.mem_of_getElem? ho
    rw[if_pos (by simp[Region.wanted,h1.1])];exact .inl (opSem.wp ((B3D (p o g) h1 hst).mono fun v w' hv=>by
     obtain⟨u,H',j,hk⟩:=hv;exact A7H p m fuel _ _ _ _ _ hk j))⟩
theorem B3E{f:Nat}{fn:Func}{c:Code}{id:Nat}{args:List D}{H:Heap}{Q:D→Heap→Prop}(hm:P.follows .mixedOrders=true)(I:P.funcs[f]? =some fn)(hb:fn.body=some (.seq c (.region id ops true)))(p:A13 P f=true)(hn:args.length≤fn.ntmps)
  (q:fn.results= #[]) (u:O4 P [] fn.ntmps c=true) (J:(ops.toList.all fun o=>match o.dst with|some t=>decide (t<fn.ntmps)|none=>true)=true)
  (h:wp P [] c (fun x E H=>x= .normal∧C0n P ops (fun _ H=>Fin Q (.tuple []) H) ops.size (Array.replicate ops.size false) E.get H) (W9 0 args) H):ACalls P f args H Q:=by
 refine⟨p,fun w vs hl L hs=>calls_of_wp I hb ?_⟩;have hst:St fn.ntmps w H (W9 0 args) H {tmps:=vs++Array.replicate (fn.ntmps-vs.size) undef,defers:=[]} w:=by
  refine⟨by simp;omega,rfl,fun i=>?_,hs,D26 _ _,D24 _ _⟩;rw[A0L,if_pos (D1u _),Nat.sub_zero];cases C:args[i]? with
  |none=>exact .undef _
  |some d=>
   have M:=(D1j.1 C).1;have:({tmps:=vs++Array.replicate (fn.ntmps-vs.size) undef,defers:=[]}:Act).eval (.tmp i)=vs.getD i undef:=by
    simp only[Act.eval];exact G2 (by omega)
   rw[this];exact L i d C
 refine Go.wp_seq (Go.wp_mono (A0K hm c _ _ _ _ _ u h hst) fun e a w' he=>?_);cases e with
 |normal=>
  obtain⟨E,H',g,_,hq⟩:=he;refine wp_region_any hm ?_;have he:Ext H' w' {w' with drawn:=w'.drawn+1}:=Ext.drewN H' w' 1;have y:=g.sat.same (w':={w' with drawn:=w'.drawn+1}) rfl he;refine A7H (N:=fn.ntmps) (w0:=w) (H0:=H) (fun o ho t O=>?_) (fun F T a1 G j hk=>?_) _ _ E.get H' a _ hq ⟨g.size,g.defers,fun i=>(g.env i).mono he (D24 _ _),y,g.ext.trans g.frm he,g.frm⟩
  ·have:=D2A.1 J o ho;rw[O]at this;simpa using this
  ·unfold Fin at hk;obtain⟨U,V,z,W⟩:=hk;have m:St fn.ntmps w H [] T a1 G:=⟨j.size,j.defers,fun i=>.undef _,j.sat,j.ext,j.frm⟩
   obtain⟨v,hv,A⟩:=A2i (P:=P) (fn:=fn) (r:=.tuple []) m (by rw[q];rfl);obtain⟨X,Y,k3⟩:=z G v A j.sat;exact⟨j.defers,v,hv,v,rfl,V,U,X,Y,j.ext,fun k hk hn=>k3 k (j.frm k hk hn),W⟩
 |exit id=>obtain⟨E,H',g,hq⟩:=he;exact absurd hq.1 (by simp)
 |ret=>obtain⟨E,H',g,hq⟩:=he;exact absurd hq.1 (by simp)
 |_=>exact he.elim
def K8(o:Oper):List Nat:=(o.after.toList.filter fun e=>Region.binds .any e).map (·.on)
theorem A1r{g:Array Bool}{i:Nat}(h:i∈Region.ready .any ops g):g.getD i true=false∧∃o,ops[i]? =some o∧∀d∈K8 o,g.getD d false=true:=by
 obtain⟨h1,o,ho,p⟩:=mem_ready.1 h;refine⟨h1,o,ho,fun d q=>?_⟩;obtain⟨e,he,rfl⟩:=D2X.1 q;obtain⟨j,m⟩:=List.mem_filter.1 he;exact p e (by simpa using j) m
theorem A7I{g:Array Bool}{i:Nat}{o:Oper}(h1:g.getD i true=false)(ho:ops[i]? =some o)(h: ∀d∈K8 o,g.getD d false=true):i∈Region.ready .any ops g:=
 mem_ready.2 ⟨h1,o,ho,fun e he hb=>h e.on (D2X.2 ⟨e,List.mem_filter.2 ⟨by simpa using he,hb⟩,rfl⟩)⟩
end
end Go.Av
namespace Go.Fo
open Go Go.Av Go.Lexs Go.Lin
def A1N(n:Int):Av.Obj:=.box [.int .i64 n]
def t7(bn bm:Nat)(a:Int×Int):Heap:=fun i=>if i=bm then some (A1N a.2)else if i=bn then some (A1N a.1)else none
theorem C0o{bn bm:Nat}(a a':Int×Int)(H d:Heap)(h:(ovr (t7 bn bm a) H).Le d):(ovr (t7 bn bm a') H).Le ((d.set bn (A1N a'.1)).set bm (A1N a'.2)):=fun k o hk=>by
 unfold Heap.set;by_cases e:k=bm
 ·subst e;simp[ovr,t7]at hk⊢;exact hk
 ·by_cases e2:k=bn
  ·subst e2;simp[ovr,t7,e]at hk⊢;exact hk
  ·simp only[e,e2,if_false];refine h _ _ ?_;simpa [ovr,t7,e,e2]using hk
def B8E(b:Bool):Av.Obj:=.box [.bool b]
def z7(bo:Nat)(a:Bool):Heap:=fun i=>if i=bo then some (B8E a)else none
theorem B4P{d:Nat}(a a':Bool)(H g:Heap)(h:(ovr (z7 d a) H).Le g):(ovr (z7 d a') H).Le (g.set d (B8E a')):=fun k o hk=>by
 unfold Heap.set;by_cases e:k=d
 ·subst e;simp[ovr,z7]at hk⊢;exact hk
 ·simp only[e,if_false];refine h _ _ ?_;simpa [ovr,z7,e]using hk
def R6(bi bb mi mb:Nat)(a:List ByteArray×List ByteArray):Heap:=fun i=>if i=mi then some (.map (D2 tt a.1))else if i=mb then some (.map (D2 tt a.2))else if i=bi then some (.box [.map mi])else if i=bb then some (.box [.map mb])else none
structure C0p(bi bb mi mb:Nat):Prop where
 a:mi≠mb
 b:bi≠mi
 c:bi≠mb
 d:bb≠mi
 e:bb≠mb
 f:bi≠bb
theorem B1m{bi bb mi mb:Nat}(F:C0p bi bb mi mb)(a:List ByteArray×List ByteArray)(H:Heap):ovr (R6 bi bb mi mb a) H mi=some (.map (D2 tt a.1))∧ovr (R6 bi bb mi mb a) H mb=some (.map (D2 tt a.2))∧ovr (R6 bi bb mi mb a) H bi=some (.box [.map mi])∧ovr (R6 bi bb mi mb a) H bb=some (.box [.map mb]):=by
 have f1:=F.a;have f2:=F.b;have f3:=F.c;have g:=F.d;have h:=F.e;have f6:=F.f;refine⟨A0z (by simp[R6]),A0z (by simp[R6,f1.symm]),A0z (by simp[R6,f2,f3]),A0z (by simp[R6,g,h,f6.symm])⟩
theorem B1n{bi bb mi mb:Nat}(a a':List ByteArray×List ByteArray)(H G:Heap)(h1:G mi=some (.map (D2 tt a'.1)))(e:G mb=some (.map (D2 tt a'.2)))(g:G bi=some (.box [.map mi]))(i:G bb=some (.box [.map mb]))
  (h: ∀k o,R6 bi bb mi mb a k=none→H k=some o→G k=some o):(ovr (R6 bi bb mi mb a') H).Le G:=fun k o hk=>by
 unfold ovr R6 at hk;by_cases e1:k=mi
 ·rw[if_pos e1]at hk;rw[e1,h1];exact hk
 rw[if_neg e1]at hk;by_cases e2:k=mb
 ·rw[if_pos e2]at hk;rw[e2,e];exact hk
 rw[if_neg e2]at hk;by_cases e3:k=bi
 ·rw[if_pos e3]at hk;rw[e3,g];exact hk
 rw[if_neg e3]at hk;by_cases d:k=bb
 ·rw[if_pos d]at hk;rw[d,i];exact hk
 rw[if_neg d]at hk;exact h k o (by unfold R6;rw[if_neg e1,if_neg e2,if_neg e3,if_neg d]) hk
theorem B8F{bi bb mi mb:Nat}(a a':List ByteArray×List ByteArray)(i:Nat)(h:R6 bi bb mi mb a i=none):R6 bi bb mi mb a' i=none:=by
 unfold R6 at h⊢;by_cases e1:i=mi
 ·simp[e1]at h
 by_cases e2:i=mb
 ·simp[e1,e2]at h;split at h<;>cases h
 by_cases e3:i=bi
 ·rw[if_neg e1,if_neg e2,if_pos e3]at h;cases h
 by_cases d:i=bb
 ·rw[if_neg e1,if_neg e2,if_neg e3,if_pos d]at h;cases h
 rw[if_neg e1,if_neg e2,if_neg e3,if_neg d]
theorem D0F(bn bm:Nat)(x y:Int)(H:Heap):(H.set bn (A1N x)).set bm (A1N y)=ovr (t7 bn bm (x,y)) H:=by
 funext i
 unfold ovr t7 Heap.set;by_cases e1:i=bm
 ·simp[e1]
 ·by_cases e2:i=bn
  ·subst e2;simp[e1]
  ·simp[e1,e2]
theorem D0G(d:Nat)(x:Bool)(H:Heap):H.set d (B8E x)=ovr (z7 d x) H:=by
 funext i
 unfold ovr z7 Heap.set;by_cases e1:i=d<;>simp[e1]
def A7J(n:Nat)(seen:List Nat):Nat:=((List.range n).filter fun i=> !seen.contains i).length
theorem A2Q{n i:Nat}{seen:List Nat}(h:i<n)(hn:i∉seen):A7J n (seen++[i])<A7J n seen:=by
 unfold A7J;have key: ∀l:List Nat,(l.filter fun j=> !(seen++[i]).contains j).length+(l.filter fun j=>decide (j=i)).length≤(l.filter fun j=> !seen.contains j).length+(l.filter fun j=>decide (j=i∧i∈seen)).length:=by
  intro l
  induction l with
  |nil=>simp
  |cons x l d=>
   simp only[List.filter_cons];by_cases e:x=i
   ·subst e;simp[hn]at d⊢;omega
   ·by_cases g:x∈seen
    ·simp[e,g]at d⊢;omega
    ·simp[e,g]at d⊢;omega
 have m:=key (List.range n);have z:((List.range n).filter fun j=>decide (j=i∧i∈seen)).length=0:=by simp[hn]
 have o:1≤((List.range n).filter fun j=>decide (j=i)).length:=by
  apply List.length_pos_of_mem (a:=i);simp[h]
 omega
def Y2(f:Fm):Bool:=decide ((foldF A0y f 1 (0,0)).1≤200)&&decide ((foldF A0y f 1 (0,0)).2≤60)
theorem B8G{f:Fm}(h:J5 f≤1000000):Y2 f=(decide (N4 f≤60)&&decide (F4 f≤200)):=by
 unfold Y2;rw[B7N f 1 (0,0) (by decide) (by omega) (by decide) (by simp only[];omega)];rw[Bool.and_comm];have h1:1≤N4 f:=by cases f;rw[N4];omega
 congr 1
 ·apply D2C.2;simp only[];omega
 ·apply D2C.2;simp only[];omega
theorem B1o{f:Fm}(h:VOk f):(Y2 f&&G8 D5 f&& !meetL (ivF f) (bvF f)&&decide ((ivF f).length+(bvF f).length≤12))=E3 f:=by
 rw[A1H];rcases h with h|h
 ·rw[B8G h];cases G8 D5 f<;>simp
 ·rw[h];simp
structure SmI(bn bm:Nat)(a:Int×Int)(d:Int)(Bs:Heap)(l:Array Bool)(F:FEnv)(H:Heap):Prop where
 size:l.size=7
 f1:F 1= .int .i64 d
 f2:F 2= .box bn 0
 f3:F 3= .box bm 0
 v0:l.getD 0 false=true→F 6= .int .i64 a.1
 v1:l.getD 1 false=true→F 7= .int .i64 (IntKind.i64.wrap (a.1+1))
 v2:l.getD 2 false=true→F 8= .int .i64 a.2
 v3:l.getD 3 false=true→F 9= .int .i64 d
 v4:l.getD 4 false=true→F 10= .int .i64 (if a.2<d then d else a.2)
 hn:H bn=some (if l.getD 5 false=true then A1N (IntKind.i64.wrap (a.1+1))else A1N a.1)
 hm:H bm=some (if l.getD 6 false=true then A1N (if a.2<d then d else a.2)else A1N a.2)
 ho: ∀k,k≠bn→k≠bm→H k=Bs k
 w5:l.getD 5 false=true→l.getD 0 false=true
 w6:l.getD 6 false=true→l.getD 2 false=true
end Go.Fo
namespace Go.Proofs.YtibphjonmikciaaGreatDoor
open Go Go.Av Go.Lexs Go.Lin Go.Fo
attribute [local irreducible] ACalls Q4
noncomputable def smOps:Array Oper:=match Tryz.f94.body with|some (.seq _ (.region _ ops _))=>ops|_=> #[]
theorem B8H{bn bm:Nat}(T:bn≠bm)(a:Int×Int)(d:Int)(Bs:Heap)(K:Kg)(hK: ∀F H,H bn=some (A1N (IntKind.i64.wrap (a.1+1)))→H bm=some (A1N (if a.2<d then d else a.2))→(∀k,k≠bn→k≠bm→H k=Bs k)→K F H):
  ∀fuel l F H,SmI bn bm a d Bs l F H→(l.toList.filter (!·)).length≤fuel→C0n Tryz.prog smOps K fuel l F H:=by
 obtain⟨x0,o0,d0,p0,g0,w0⟩: ∃o,smOps[0]? =some o∧o.dst=some 6∧o.op= .load 3 (.tmp 2)∧o.guard=none∧K8 o= []:=⟨_,rfl,rfl,rfl,rfl,rfl⟩
 obtain⟨x1,o1,d1,p1,g1,w1⟩: ∃o,smOps[1]? =some o∧o.dst=some 7∧o.op= .binOp .add 3 (.tmp 6) (.const (.int .i64 1)) 3∧o.guard=none∧K8 o= [0]:=⟨_,rfl,rfl,rfl,rfl,rfl⟩
 obtain⟨x2,o2,d2,p2,g2,w2⟩: ∃o,smOps[2]? =some o∧o.dst=some 8∧o.op= .load 3 (.tmp 3)∧o.guard=none∧K8 o= []:=⟨_,rfl,rfl,rfl,rfl,rfl⟩
 obtain⟨x3,o3,d3,p3,g3,w3⟩: ∃o,smOps[3]? =some o∧o.dst=some 9∧o.op= .move (.tmp 1)∧o.guard=none∧K8 o= []:=⟨_,rfl,rfl,rfl,rfl,rfl⟩
 obtain⟨x4,o4,d4,p4,g4,W⟩: ∃o,smOps[4]? =some o∧o.dst=some 10∧o.op= .call ⟨.builtin .max,#[.tmp 8,.tmp 9],#[3,3]⟩∧o.guard=none∧K8 o= [2,3]:=⟨_,rfl,rfl,rfl,rfl,rfl⟩
 obtain⟨x5,o5,d5,p5,g5,w5⟩: ∃o,smOps[5]? =some o∧o.dst=none∧o.op= .store 3 (.tmp 2) (.tmp 7)∧o.guard=none∧K8 o= [1,0,1]:=⟨_,rfl,rfl,rfl,rfl,rfl⟩
 obtain⟨x6,o6,d6,p6,g6,w6⟩: ∃o,smOps[6]? =some o∧o.dst=none∧o.op= .store 3 (.tmp 3) (.tmp 10)∧o.guard=none∧K8 o= [4,5,0,1,2,3,4,5]:=⟨_,rfl,rfl,rfl,rfl,rfl⟩
 have a0:smOps.size=7:=rfl;generalize smOps=ops at*;have U: ∀i o,ops[i]? =some o→i<7:=fun i o h=>by have:=(D1y.1 h).1;omega
 have done: ∀l F H,SmI bn bm a d Bs l F H→(∀i,i<7→l.getD i false=true)→K F H:=fun l F H I J=>by
  refine hK F H ?_ ?_ I.ho
  ·rw[I.hn,if_pos (J 5 (by decide))]
  ·rw[I.hm,if_pos (J 6 (by decide))]
 have tf: ∀(l:Array Bool) (i:Nat),l.size=7→i<7→l.getD i false=false→l.getD i true=false:=fun l i hs z h=>by
  have:i<l.size:=by omega
  simp[this]at h⊢;exact h
 have ft: ∀(l:Array Bool) (i:Nat),l.size=7→i<7→l.getD i true=false→l.getD i false=false:=fun l i hs z h=>by
  have:i<l.size:=by omega
  simp[this]at h⊢;exact h
 have p: ∀(l:Array Bool),l.size=7→Region.ready .any ops l= []→∀i,i<7→l.getD i false=true:=fun l hs L=>by
  have k: ∀i o,i<7→ops[i]? =some o→(∀e∈K8 o,l.getD e false=true)→l.getD i false=true:=fun i o z ho A=>by
   cases hc:l.getD i false with
   |true=>rfl
   |false=>
    have:=A7I (tf l i hs z hc) ho A;rw[L]at this;cases this
  have k0:=k 0 x0 (by decide) o0 (fun e he=>by rw[w0]at he;simp only[D11,D12,or_false]at he;repeat (first|(rcases he with rfl|he;assumption)|(subst he;assumption)|exact he.elim));have M:=k 1 x1 (by decide) o1 (fun e he=>by rw[w1]at he;simp only[D11,D12,or_false]at he;repeat (first|(rcases he with rfl|he;assumption)|(subst he;assumption)|exact he.elim));have O:=k 2 x2 (by decide) o2 (fun e he=>by rw[w2]at he;simp only[D11,D12,or_false]at he;repeat (first|(rcases he with rfl|he;assumption)|(subst he;assumption)|exact he.elim));have k3:=k 3 x3 (by decide) o3 (fun e he=>by rw[w3]at he;simp only[D11,D12,or_false]at he;repeat (first|(rcases he with rfl|he;assumption)|(subst he;assumption)|exact he.elim));have k4:=k 4 x4 (by decide) o4 (fun e he=>by rw[W]at he;simp only[D11,D12,or_false]at he;repeat (first|(rcases he with rfl|he;assumption)|(subst he;assumption)|exact he.elim));have k5:=k 5 x5 (by decide) o5 (fun e he=>by rw[w5]at he;simp only[D11,D12,or_false]at he;repeat (first|(rcases he with rfl|he;assumption)|(subst he;assumption)|exact he.elim));have k6:=k 6 x6 (by decide) o6 (fun e he=>by rw[w6]at he;simp only[D11,D12,or_false]at he;repeat (first|(rcases he with rfl|he;assumption)|(subst he;assumption)|exact he.elim));intro i z
  match i,z with
  |0,_=>exact k0
  |1,_=>exact M
  |2,_=>exact O
  |3,_=>exact k3
  |4,_=>exact k4
  |5,_=>exact k5
  |6,_=>exact k6
 have X: ∀(l:Array Bool) (i:Nat) (n:Nat),l.size=7→i<7→l.getD i false=false→(l.toList.filter (!·)).length≤n+1→((l.setIfInBounds i true).toList.filter (!·)).length≤n:=fun l i n hs z h hc=>by
  have key: ∀(m:List Bool) (i:Nat),m[i]? =some false→((m.set i true).filter (!·)).length+1=(m.filter (!·)).length:=by
   intro m
   induction m with
   |nil=>intro i h;simp at h
   |cons b m C=>
    intro i h;cases i with
    |zero=>simp at h;subst h;simp
    |succ i=>
     have:=C i (by simpa using h);cases b<;>simp[List.set_cons_succ]<;>omega
  have hl:l.toList[i]? =some false:=by
   have:i<l.size:=by omega
   simp[this]at h⊢;exact h
  have:=key l.toList i hl;rw[Array.toList_setIfInBounds];omega
 have gs: ∀(l:Array Bool) (i j:Nat),l.size=7→i<7→(l.setIfInBounds i true).getD j false=(decide (i=j)||l.getD j false):=fun l i j hs z=>by
  by_cases e:i=j
  ·subst e;have:i<l.size:=by omega
   simp[this]
  ·rw[getD_set_ne false e];simp[e]
 intro fuel
 induction fuel with
 |zero=>
  intro l F H I hc;have hr:Region.ready .any ops l= []:=by
   cases hr:Region.ready .any ops l with
   |nil=>rfl
   |cons i r=>
    exfalso;obtain⟨h1,o,ho,_⟩:=A1r (by rw[hr];exact D1k .. :i∈Region.ready .any ops l);have z:=U i o ho;have:=I.size;have hl:l.toList[i]? =some false:=by
     have:i<l.size:=by omega
     simp[this]at h1⊢;exact h1
    have hm:false∈l.toList.filter (!·):=List.mem_filter.2 ⟨D16 hl,rfl⟩;have:=List.length_pos_of_mem hm;omega
  exact⟨hr,done l F H I (p l I.size hr)⟩
 |succ n C=>
  intro l F H I hc;refine⟨fun L=>done l F H I (p l I.size L),fun i z=>?_⟩;obtain⟨hu,o,ho,A⟩:=A1r z;have G:=U i o ho;have V:=ft l i I.size G hu;refine⟨o,ho,?_⟩;have u:=X l i n I.size G V hc;have hsz:(l.setIfInBounds i true).size=7:=by simpa using I.size
  have g:=fun j=>gs l i j I.size G;have nn:bn∈[bn,bm]:=by simp
  match i,G with
  |0,_=>
   rw[o0]at ho;cases ho;have e5:l.getD 5 false=false:=by
    cases q:l.getD 5 false with
    |false=>rfl
    |true=>have:=I.w5 q;rw[V]at this;cases this
   have x:=I.hn;rw[e5]at x;refine⟨g0,?_⟩;rw[p0,d0];simp only[go_sem,seval,show F.ev (.tmp 2)= .box bn 0 from I.f2,show H bn=some (.box [.int .i64 a.1])from x];refine C _ _ _ ?_ u;exact⟨hsz,I.f1,I.f2,I.f3,fun _=>rfl,fun q=>I.v1 (by simpa [g,-Array.getD_eq_getD_getElem?]using q),fun q=>I.v2 (by simpa [g,-Array.getD_eq_getD_getElem?]using q),fun q=>I.v3 (by simpa [g,-Array.getD_eq_getD_getElem?]using q),fun q=>I.v4 (by simpa [g,-Array.getD_eq_getD_getElem?]using q),by rw[I.hn];simp[g,-Array.getD_eq_getD_getElem?],by rw[I.hm];simp[g,-Array.getD_eq_getD_getElem?],I.ho,fun q=>by simp[g,-Array.getD_eq_getD_getElem?],fun q=>by simpa [g,-Array.getD_eq_getD_getElem?]using I.w6 (by simpa [g,-Array.getD_eq_getD_getElem?]using q)⟩
  |1,_=>
   rw[o1]at ho;cases ho;have L:l.getD 0 false=true:=A 0 (by rw[w1];simp);refine⟨g1,?_⟩;rw[p1,d1];simp only[go_sem,seval,show F.ev (.tmp 6)= .int .i64 a.1 from I.v0 L,show F.ev (.const (.int .i64 1))= .int .i64 1 from rfl];refine C _ _ _ ?_ u;exact⟨hsz,I.f1,I.f2,I.f3,fun q=>I.v0 (by simpa [g,-Array.getD_eq_getD_getElem?]using q),fun _=>rfl,fun q=>I.v2 (by simpa [g,-Array.getD_eq_getD_getElem?]using q),fun q=>I.v3 (by simpa [g,-Array.getD_eq_getD_getElem?]using q),fun q=>I.v4 (by simpa [g,-Array.getD_eq_getD_getElem?]using q),by rw[I.hn];simp[g,-Array.getD_eq_getD_getElem?],by rw[I.hm];simp[g,-Array.getD_eq_getD_getElem?],I.ho,fun q=>by simpa [g,-Array.getD_eq_getD_getElem?]using I.w5 (by simpa [g,-Array.getD_eq_getD_getElem?]using q),fun q=>by simpa [g,-Array.getD_eq_getD_getElem?]using I.w6 (by simpa [g,-Array.getD_eq_getD_getElem?]using q)⟩
  |2,_=>
   rw[o2]at ho;cases ho;have e6:l.getD 6 false=false:=by
    cases q:l.getD 6 false with
    |false=>rfl
    |true=>have:=I.w6 q;rw[V]at this;cases this
   have y:=I.hm;rw[e6]at y;refine⟨g2,?_⟩;rw[p2,d2];simp only[go_sem,seval,show F.ev (.tmp 3)= .box bm 0 from I.f3,show H bm=some (.box [.int .i64 a.2])from y];refine C _ _ _ ?_ u;exact⟨hsz,I.f1,I.f2,I.f3,fun q=>I.v0 (by simpa [g,-Array.getD_eq_getD_getElem?]using q),fun q=>I.v1 (by simpa [g,-Array.getD_eq_getD_getElem?]using q),fun _=>rfl,fun q=>I.v3 (by simpa [g,-Array.getD_eq_getD_getElem?]using q),fun q=>I.v4 (by simpa [g,-Array.getD_eq_getD_getElem?]using q),by rw[I.hn];simp[g,-Array.getD_eq_getD_getElem?],by rw[I.hm];simp[g,-Array.getD_eq_getD_getElem?],I.ho,fun q=>by simpa [g,-Array.getD_eq_getD_getElem?]using I.w5 (by simpa [g,-Array.getD_eq_getD_getElem?]using q),fun q=>by simp[g,-Array.getD_eq_getD_getElem?]⟩
  |3,_=>
   rw[o3]at ho;cases ho;refine⟨g3,?_⟩;rw[p3,d3];simp only[go_sem,seval,show F.ev (.tmp 1)= .int .i64 d from I.f1];refine C _ _ _ ?_ u;exact⟨hsz,I.f1,I.f2,I.f3,fun q=>I.v0 (by simpa [g,-Array.getD_eq_getD_getElem?]using q),fun q=>I.v1 (by simpa [g,-Array.getD_eq_getD_getElem?]using q),fun q=>I.v2 (by simpa [g,-Array.getD_eq_getD_getElem?]using q),fun _=>rfl,fun q=>I.v4 (by simpa [g,-Array.getD_eq_getD_getElem?]using q),by rw[I.hn];simp[g,-Array.getD_eq_getD_getElem?],by rw[I.hm];simp[g,-Array.getD_eq_getD_getElem?],I.ho,fun q=>by simpa [g,-Array.getD_eq_getD_getElem?]using I.w5 (by simpa [g,-Array.getD_eq_getD_getElem?]using q),fun q=>by simpa [g,-Array.getD_eq_getD_getElem?]using I.w6 (by simpa [g,-Array.getD_eq_getD_getElem?]using q)⟩
  |4,_=>
   rw[o4]at ho;cases ho;have Y:l.getD 2 false=true:=A 2 (by rw[W];simp);have h3:l.getD 3 false=true:=A 3 (by rw[W];simp);refine⟨g4,?_⟩;rw[p4,d4];simp only[go_sem,seval,show F.ev (.tmp 8)= .int .i64 a.2 from I.v2 Y,show F.ev (.tmp 9)= .int .i64 d from I.v3 h3];refine C _ _ _ ?_ u;exact⟨hsz,I.f1,I.f2,I.f3,fun q=>I.v0 (by simpa [g,-Array.getD_eq_getD_getElem?]using q),fun q=>I.v1 (by simpa [g,-Array.getD_eq_getD_getElem?]using q),fun q=>I.v2 (by simpa [g,-Array.getD_eq_getD_getElem?]using q),fun q=>I.v3 (by simpa [g,-Array.getD_eq_getD_getElem?]using q),fun _=>rfl,by rw[I.hn];simp[g,-Array.getD_eq_getD_getElem?],by rw[I.hm];simp[g,-Array.getD_eq_getD_getElem?],I.ho,fun q=>by simpa [g,-Array.getD_eq_getD_getElem?]using I.w5 (by simpa [g,-Array.getD_eq_getD_getElem?]using q),fun q=>by simpa [g,-Array.getD_eq_getD_getElem?]using I.w6 (by simpa [g,-Array.getD_eq_getD_getElem?]using q)⟩
  |5,_=>
   rw[o5]at ho;cases ho;have L:l.getD 0 false=true:=A 0 (by rw[w5];simp);have h1:l.getD 1 false=true:=A 1 (by rw[w5];simp);have x:=I.hn;rw[V]at x;refine⟨g5,?_⟩;rw[p5,d5];simp only[go_sem,seval,show F.ev (.tmp 2)= .box bn 0 from I.f2,show F.ev (.tmp 7)= .int .i64 (IntKind.i64.wrap (a.1+1))from I.v1 h1,show H bn=some (.box [.int .i64 a.1])from x];refine C _ _ _ ?_ u;exact⟨hsz,I.f1,I.f2,I.f3,fun q=>I.v0 (by simpa [g,-Array.getD_eq_getD_getElem?]using q),fun q=>I.v1 (by simpa [g,-Array.getD_eq_getD_getElem?]using q),fun q=>I.v2 (by simpa [g,-Array.getD_eq_getD_getElem?]using q),fun q=>I.v3 (by simpa [g,-Array.getD_eq_getD_getElem?]using q),fun q=>I.v4 (by simpa [g,-Array.getD_eq_getD_getElem?]using q),by rw[A0];simp[g,-Array.getD_eq_getD_getElem?,A1N],by rw[A3 _ T.symm,I.hm];simp[g,-Array.getD_eq_getD_getElem?],fun k M O=>by rw[A3 _ M];exact I.ho k M O,fun q=>by simp[g,-Array.getD_eq_getD_getElem?,L],fun q=>by simpa [g,-Array.getD_eq_getD_getElem?]using I.w6 (by simpa [g,-Array.getD_eq_getD_getElem?]using q)⟩
  |6,_=>
   rw[o6]at ho;cases ho;have Y:l.getD 2 false=true:=A 2 (by rw[w6];simp);have h4:l.getD 4 false=true:=A 4 (by rw[w6];simp);have y:=I.hm;rw[V]at y;refine⟨g6,?_⟩;rw[p6,d6];simp only[go_sem,seval,show F.ev (.tmp 3)= .box bm 0 from I.f3,show F.ev (.tmp 10)= .int .i64 (if a.2<d then d else a.2)from I.v4 h4,show H bm=some (.box [.int .i64 a.2])from y];refine C _ _ _ ?_ u;exact⟨hsz,I.f1,I.f2,I.f3,fun q=>I.v0 (by simpa [g,-Array.getD_eq_getD_getElem?]using q),fun q=>I.v1 (by simpa [g,-Array.getD_eq_getD_getElem?]using q),fun q=>I.v2 (by simpa [g,-Array.getD_eq_getD_getElem?]using q),fun q=>I.v3 (by simpa [g,-Array.getD_eq_getD_getElem?]using q),fun q=>I.v4 (by simpa [g,-Array.getD_eq_getD_getElem?]using q),by rw[A3 _ T,I.hn];simp[g,-Array.getD_eq_getD_getElem?],by rw[A0];simp[g,-Array.getD_eq_getD_getElem?,A1N],fun k M O=>by rw[A3 _ O];exact I.ho k M O,fun q=>by simpa [g,-Array.getD_eq_getD_getElem?]using I.w5 (by simpa [g,-Array.getD_eq_getD_getElem?]using q),fun q=>by simp[g,-Array.getD_eq_getD_getElem?,Y]⟩
theorem B8I{bn bm:Nat}(g:bn≠bm)(a:Int×Int)(f:Fm)(d:Int)(H:Heap)(Q:D→Heap→Prop)(h:Q (.tuple []) (ovr (t7 bn bm (A0y a f d)) H)):D8 94 [.agg (B9 f),.int .i64 d,.box bn 0,.box bm 0] (ovr (t7 bn bm a) H) Q:=by
 refine B3E (ops:=smOps) A5 Tryz.func94 rfl (by kernel_rfl) (D1a (by kernel_rfl)) rfl (by kernel_rfl) (by kernel_rfl) ?_;simp only[go_sem,seval];intro j x;obtain⟨p,I⟩:=A1M x;have y:bn≠j∧bm≠j:=by
  unfold t7 at p;constructor
  ·rintro rfl;simp[g]at p
  ·rintro rfl;simp at p
 have e1:((ovr (t7 bn bm a) H).set j (.box (B9 f))) bn=some (A1N a.1):=by
  rw[A3 _ y.1,A0z (o:=A1N a.1) (by simp[t7,g])]
 have e2:((ovr (t7 bn bm a) H).set j (.box (B9 f))) bm=some (A1N a.2):=by
  rw[A3 _ y.2,A0z (o:=A1N a.2) (by simp[t7])]
 have m:(ovr (t7 bn bm a) H).Le ((ovr (t7 bn bm a) H).set j (.box (B9 f))):=A2 x;generalize (ovr (t7 bn bm a) H).set j (.box (B9 f))=Bs at e1 e2 m⊢;have e: ∀i,(Array.replicate smOps.size false).getD i false=false:=fun i=>by simp[Array.getElem?_replicate];split<;>simp
 refine B8H g a d Bs _ (fun F J A z C=>?_) _ _ _ _ ?_ ?_
 rotate_left
 ·exact⟨by rfl,rfl,rfl,rfl,fun q=>(by rw[e]at q;cases q),fun q=>(by rw[e]at q;cases q),fun q=>(by rw[e]at q;cases q),fun q=>(by rw[e]at q;cases q),fun q=>(by rw[e]at q;cases q),by rw[e1,e];rfl,by rw[e2,e];rfl,fun _ _ _=>rfl,fun q=>(by rw[e]at q;cases q),fun q=>(by rw[e]at q;cases q)⟩
 ·show ((Array.replicate 7 false).toList.filter (!·)).length≤7;decide
 have G:(if a.2<d then d else a.2)=(A0y a f d).2:=by unfold A0y;simp only[Int.max_def];split<;>split<;>omega
 rw[G]at z;refine D21 ((C0o a (A0y a f d) H Bs m).trans fun k o hk=>?_) h;by_cases r:k=bm
 ·subst r;rw[A0]at hk;rw[z];exact hk
 ·rw[A3 _ r]at hk;by_cases u:k=bn
  ·subst u;rw[A0]at hk;rw[A];exact hk
  ·rw[A3 _ u]at hk;rw[C k u r];exact hk
theorem B8J{bn bm:Nat}(g:bn≠bm):Vis Tryz.prog (Int×Int) 94 [.box bn 0,.box bm 0] (t7 bn bm) A0y (fun _=>True) (fun _=>True) where
 dom a a' i h:=by
  unfold t7 at h⊢;by_cases e:i=bm
  ·simp[e]at h
  ·by_cases e2:i=bn
   ·simp[e2,g]at h
   ·simp[e,e2]
 inv _ _ _ _:=trivial
 base _ _ _ _ _:=trivial
 call a f d H Q _ _ fa h:=B8I g a f d H Q h
theorem C0q{Q}(f:Fm)(I:FmFit f)(H:Heap)(h:Q (.bool (Y2 f)) H):D8 52 [.agg (B9 f)] H Q:=by
 refine A8 [] A5 Tryz.func52 rfl ?_;simp only[go_sem,seval,Tryz.results52];intro y h1;repeat' (first|simp only[go_sem,seval]|simp(disch:=first|omega|grind) only[B3]|(intro d;try simp only[A6]at d))
 rename_i i J j;have z:=d;clear d;have m:i≠j:=fun e=>z.1 e.symm;refine Eq.mpr (congrArg (fun G=>ACalls _ _ _ G _) (D0F i j 0 0 (((H.set y (.box (B9 f))).set i (.box [.int .i64 0])).set j (.box [.int .i64 0])))) ?_;refine B3B (B8J m) f I 1 (0,0) trivial _ trivial ?_;generalize u:((H.set y (.box (B9 f))).set i (.box [.int .i64 0])).set j (.box [.int .i64 0])=q;have e3:ovr (t7 i j (foldF A0y f 1 (0,0))) q i=some (.box [.int .i64 (foldF A0y f 1 (0,0)).1]):=A0z (o:=A1N _) (by simp[t7,m]);have x:ovr (t7 i j (foldF A0y f 1 (0,0))) q j=some (.box [.int .i64 (foldF A0y f 1 (0,0)).2]):=A0z (o:=A1N _) (by simp[t7]);have p:H.Le (ovr (t7 i j (foldF A0y f 1 (0,0))) q):=fun k o hk=>by
  have A:k≠i:=fun g=>by subst g;rw[J.2]at hk;cases hk
  have C:k≠j:=fun g=>by subst g;rw[z.2.2]at hk;cases hk
  rw[A2y (by simp[t7,A,C])];rw[←u,A3 _ C,A3 _ A];exact A2 h1 _ _ hk
 generalize ovr (t7 i j (foldF A0y f 1 (0,0))) q=Bs at e3 x p⊢;unfold Y2 at h;generalize foldF A0y f 1 (0,0)=r at e3 x h;repeat' (first|with_reducible apply D1Z|simp only[go_sem,seval,e3,x]|(intro d;try simp only[A6]at d))
 all_goals (refine D21 p ?_;simp_all)
theorem B8K{e:Nat}(a:Bool)(f:Fm)(m:FmFit f)(d:Int)(H:Heap)(Q:D→Heap→Prop)(h:Q (.tuple []) (ovr (z7 e (A9X D5 a f d)) H)):D8 54 [.agg (B9 f),.int .i64 d,.box e 0] (ovr (z7 e a) H) Q:=by
 refine A8 [] A5 Tryz.func54 rfl ?_;simp only[go_sem,seval,Tryz.results54];intro i j;obtain⟨p,q⟩:=A1M j;have n3:e≠i:=by
  rintro rfl;simp[z7]at p
 have e1:((ovr (z7 e a) H).set i (.box (B9 f))) e=some (.box [.bool a]):=by
  rw[A3 _ n3,A0z (o:=B8E a) (by simp[z7])];rfl
 have e3:((ovr (z7 e a) H).set i (.box (B9 f))) i=some (.box (B9 f)):=A0 _ _;have g:(ovr (z7 e a) H).Le ((ovr (z7 e a) H).set i (.box (B9 f))):=A2 j;generalize (ovr (z7 e a) H).set i (.box (B9 f))=Bs at e1 e3 g⊢;cases a with
 |false=>
  repeat' simp only[go_sem,seval,e1,e3]
  exact D21 (B4P false (A9X D5 false f d) H Bs g) h
 |true=>
  repeat' (first|simp only[go_sem,seval,e1,e3]|with_reducible refine D0E f m _ ?_)
  exact D21 (B4P true (A9X D5 true f d) H Bs g) h
theorem B8L(g:Nat):Vis Tryz.prog Bool 54 [.box g 0] (z7 g) (A9X D5) (fun _=>True) (fun _=>True) where
 dom a a' i h:=by
  unfold z7 at h⊢;by_cases e:i=g
  ·simp[e]at h
  ·simp[e]
 inv _ _ _ _:=trivial
 base _ _ _ _ _:=trivial
 call a f d H Q _ _ fa h:=B8K a f fa d H Q h
end Go.Proofs.YtibphjonmikciaaGreatDoor
namespace Go.Av
theorem A5k{Q:D→Heap→Prop}{H:Heap}{b:Nat}{kvs:List (D×D)}(hb:H b=some (.map kvs))(h:Fin Q (.fm kvs) (H.del b)):Fin Q (.map b) H:=by
 unfold Fin at h⊢;obtain⟨d,d1,h1,e⟩:=h;exact⟨d,d1,Shift.trans (fun w v hr hs=>⟨B3r hs hb (E5 H b) (I0 (by simp[Heap.del])) hr,hs.less (E5 H b),fun k hn=>(E5 H b).held hn⟩) h1,e⟩
theorem A4T{Q:D→Heap→Prop}{H:Heap}{b:Nat}{kvs:List (D×D)}{ds ds':List D}(hb:H b=some (.map kvs))(hl:ds.length=ds'.length)
  (m: ∀(i:Nat) d d',ds[i]? =some d→ds'[i]? =some d'→d'=d∨(d= .map b∧d'= .fm kvs)) (h:Fin Q (.tuple ds') (H.del b)):Fin Q (.tuple ds) H:=by
 unfold Fin at h⊢;obtain⟨o,d1,h1,p⟩:=h;refine⟨o,d1,Shift.trans (fun w v hr hs=>⟨?_,hs.less (E5 H b),fun k hn=>(E5 H b).held hn⟩) h1,p⟩;obtain⟨vs,rfl,q,e⟩:=hr.tuple_inv;refine .tuple _ _ (by omega) fun i d' g=>?_;obtain⟨d,j⟩:=G3 hl g;rcases m i d d' j g with rfl|⟨rfl,rfl⟩
 ·exact(e i d' j).less (E5 H b)
 ·exact B3r hs hb (E5 H b) (I0 (by simp[Heap.del])) (e i _ j)
theorem A95{Q:D→Heap→Prop}{H:Heap}{b c:Nat}{kvs g:List (D×D)}{ds:List D}(hb:H b=some (.map kvs))(hc:H c=some (.map g))(j:c≠b)(h:Fin Q (.tuple (.fm kvs:: .fm g::ds)) ((H.del b).del c)):Fin Q (.tuple (.map b:: .map c::ds)) H:=by
 refine A4T (ds':=.fm kvs:: .map c::ds) hb rfl (fun i d d' h1 e=>?_) (A4T (b:=c) (kvs:=g) (ds':=.fm kvs:: .fm g::ds) (by simp[Heap.del,j,hc]) rfl (fun i d d' h1 e=>?_) h)
 ·match i with
  |0=>cases h1;cases e;exact .inr ⟨rfl,rfl⟩
  |i+1=>simp only[D15]at h1 e;rw[h1]at e;cases e;exact .inl rfl
 ·match i with
  |0=>cases h1;cases e;exact .inl rfl
  |1=>cases h1;cases e;exact .inr ⟨rfl,rfl⟩
  |i+2=>simp only[D15]at h1 e;rw[h1]at e;cases e;exact .inl rfl
end Go.Av
namespace Go.Proofs.YtibphjonmikciaaGreatDoor
open Go Go.Av Go.Lexs Go.Lin Go.Fo
attribute [local irreducible] ACalls Q4
theorem B8M{bi bb mi mb:Nat}(F:C0p bi bb mi mb)(a:List ByteArray×List ByteArray)(W:a.1.Nodup)(a0:a.2.Nodup)(f:Fm)(fa:FmFit f)(d:Int)(H:Heap)(Q:D→Heap→Prop)(h:Q (.tuple []) (ovr (R6 bi bb mi mb (A5x a f d)) H)):
  D8 86 [.agg (B9 f),.int .i64 d,.box bb 0,.box bi 0] (ovr (R6 bi bb mi mb a) H) Q:=by
 refine A8 [] A5 Tryz.func86 rfl ?_;simp only[go_sem,seval,Tryz.results86];have a5:=fa.lin.len;intro p A;obtain⟨s4,g4⟩:=A1M A;obtain⟨G,U,q3,q4⟩:=B1m F a H;have V:mi≠p∧mb≠p∧bi≠p∧bb≠p:=by
  refine⟨fun e=>?_,fun e=>?_,fun e=>?_,fun e=>?_⟩
  ·rw[←e,G]at A;cases A
  ·rw[←e,U]at A;cases A
  ·rw[←e,q3]at A;cases A
  ·rw[←e,q4]at A;cases A
 have e1:((ovr (R6 bi bb mi mb a) H).set p (.box (B9 f))) mi=some (.map (D2 tt a.1)):=by rw[A3 _ V.1];exact G
 have e2:((ovr (R6 bi bb mi mb a) H).set p (.box (B9 f))) mb=some (.map (D2 tt a.2)):=by rw[A3 _ V.2.1];exact U
 have e3:((ovr (R6 bi bb mi mb a) H).set p (.box (B9 f))) bi=some (.box [.map mi]):=by rw[A3 _ V.2.2.1];exact q3
 have X:((ovr (R6 bi bb mi mb a) H).set p (.box (B9 f))) bb=some (.box [.map mb]):=by rw[A3 _ V.2.2.2];exact q4
 have e5:((ovr (R6 bi bb mi mb a) H).set p (.box (B9 f))) p=some (.box (B9 f)):=A0 _ _;have hH: ∀k o,R6 bi bb mi mb a k=none→H k=some o→((ovr (R6 bi bb mi mb a) H).set p (.box (B9 f))) k=some o:=fun k o g k2=>A2 A _ _ (by rw[A2y g];exact k2);generalize (ovr (R6 bi bb mi mb a) H).set p (.box (B9 f))=Bs at e1 e2 e3 X e5 hH⊢;have f1:=F.a;have f2:=F.b;have f3:=F.c;have f4:=F.d;have f5:=F.e;have f6:=F.f;have I: ∀k,R6 bi bb mi mb a k=none→k≠mi∧k≠mb∧k≠bi∧k≠bb:=fun k hk=>by
  refine⟨fun e=>?_,fun e=>?_,fun e=>?_,fun e=>?_⟩<;>(subst e;simp[R6,f1,f2,f3,f4,f5,f6,f1.symm,f6.symm]at hk)
 have n1:p≠mb:=fun e=>V.2.1 e.symm;have n2:p≠mi:=fun e=>V.1 e.symm;by_cases o3:f.op=3
 ·repeat' (first|with_reducible apply D1Z|simp only[go_sem,seval,e1,e2,e3,X,e5,o3,i6 _ _ _ _ a0,A3V]|simp(disch:=first|omega|grind) only[B3])
  have c1:(Bs.set mb (.map (D2 tt (I8 a.2 f.s)))) mi=some (.map (D2 tt a.1)):=by rw[A3 _ f1];exact e1
  have J:(Bs.set mb (.map (D2 tt (I8 a.2 f.s)))) mb=some (.map (D2 tt (I8 a.2 f.s))):=A0 _ _;have Y:(Bs.set mb (.map (D2 tt (I8 a.2 f.s)))) bi=some (.box [.map mi]):=by rw[A3 _ f3];exact e3
  have c4:(Bs.set mb (.map (D2 tt (I8 a.2 f.s)))) bb=some (.box [.map mb]):=by rw[A3 _ f5];exact X
  have c5:(Bs.set mb (.map (D2 tt (I8 a.2 f.s)))) p=some (.box (B9 f)):=by rw[A3 _ n1];exact e5
  have cH: ∀k o,R6 bi bb mi mb a k=none→H k=some o→(Bs.set mb (.map (D2 tt (I8 a.2 f.s)))) k=some o:=fun k o g k2=>by
   rw[A3 _ (I k g).2.1];exact hH k o g k2
  generalize Bs.set mb (.map (D2 tt (I8 a.2 f.s)))=Cs at c1 J Y c4 c5 cH⊢;have eS:(A5x a f d).2=I8 a.2 f.s:=by unfold A5x;rw[if_pos o3]
  rw[←eS]at J;refine C2 [3,16,17] (fun(j:Nat)=>[(18,.int .i64 j)]) (fun(j:Nat)=>Cs.set mi (.map (D2 tt (((f.l.t.take j).map (·.v)).foldl I8 a.1)))) (fun(j:Nat)=>j≤f.l.t.length) (fun(j:Nat)=>f.l.t.length-j) (0) (D1u _) (by simp only[go_sem,seval]) (A5T (by assumption)) ?_;rintro Ec rfl j hj;have q:(Cs.set mi (.map (D2 tt (((f.l.t.take j).map (·.v)).foldl I8 a.1)))) bi=some (.box [.map mi]):=by rw[A3 _ f2];exact Y
  have g:(Cs.set mi (.map (D2 tt (((f.l.t.take j).map (·.v)).foldl I8 a.1)))) mi=some (.map (D2 tt (((f.l.t.take j).map (·.v)).foldl I8 a.1))):=A0 _ _;by_cases r:j<f.l.t.length
  ·have u:decide ((j:Int)<f.l.t.length)=true:=D1b (by omega);have L:(j:Int)<f.l.t.length:=by omega
   have x:(((f.l.t.take j).map (·.v)).foldl I8 a.1).Nodup:=V3 _ _ W;have z:((f.l.t.take (j+1)).map (·.v)).foldl I8 a.1=I8 (((f.l.t.take j).map (·.v)).foldl I8 a.1) f.l.t[j].v:=by
    rw[D1s r,D2Z,D2R];rfl
   generalize hM:((f.l.t.take j).map (·.v)).foldl I8 a.1=M at x z g q⊢;generalize i:Cs.set mi (.map (D2 tt M))=Ds at g q⊢;repeat' (first|with_reducible apply D1Z|simp only[go_sem,seval,u,L,A9 _ _ r,C0 _ _ r,g,q,i6 _ _ _ _ x,A3V]|simp(disch:=omega) only[A4,A9,C3]|simp(disch:=first|omega|grind) only[B3]|intro m|omega)
   rename_i O;have y:=m;clear m;have n7:mi≠O:=fun e=>by rw[←e,g]at y;cases y
   have T:bi≠O:=fun e=>by rw[←e,q]at y;cases y
   repeat' (first|with_reducible apply D1Z|simp only[go_sem,seval,g,q,i6 _ _ _ _ x,A3V,A3 _ n7,A3 _ T]|simp(disch:=omega) only[A4,A9,C3]|simp(disch:=first|omega|grind) only[B3]|intro m|omega)
   refine C1 (j+1) (by omega) (by omega) (by(try simp only[go_sem,seval])<;>(try simp(disch:=omega) [A4])) ?_;rw[z,←i];rw[←i]at y;intro k o hk;by_cases C:k=mi
   ·subst C;rw[A0]at hk⊢;exact hk
   ·rw[A3 _ C]at hk⊢;have g2:k≠O:=fun e=>by subst e;rw[A3 _ C,hk]at y;cases y
    rw[A3 _ g2,A3 _ C];exact hk
  ·have u:decide ((j:Int)<f.l.t.length)=false:=D1c (by omega);rw[D1o (by omega)]at g q⊢;repeat' simp only[go_sem,seval,u]
   refine D21 (B1n a (A5x a f d) H _ g (by rw[A3 _ f1.symm];exact J) q (by rw[A3 _ f4];exact c4) (fun k o G U=>by rw[A3 _ (I k G).1];exact cH k o G U)) h
 ·have a4:decide (f.op=3)=false:=D1c o3;repeat' (first|with_reducible apply D1Z|simp only[go_sem,seval,e1,e2,e3,X,e5,a4]|intro m|omega)
  have c1:=e1;have J:=e2;have Y:=e3;have c4:=X;have c5:=e5;have cH:=hH;generalize Bs=Cs at c1 J Y c4 c5 cH⊢;have eS:(A5x a f d).2=a.2:=by unfold A5x;rw[if_neg o3]
  rw[←eS]at J;refine C2 [3,16,17] (fun(j:Nat)=>[(18,.int .i64 j)]) (fun(j:Nat)=>Cs.set mi (.map (D2 tt (((f.l.t.take j).map (·.v)).foldl I8 a.1)))) (fun(j:Nat)=>j≤f.l.t.length) (fun(j:Nat)=>f.l.t.length-j) (0) (D1u _) (by simp only[go_sem,seval]) (A5T (by assumption)) ?_;rintro Ec rfl j hj;have q:(Cs.set mi (.map (D2 tt (((f.l.t.take j).map (·.v)).foldl I8 a.1)))) bi=some (.box [.map mi]):=by rw[A3 _ f2];exact Y
  have g:(Cs.set mi (.map (D2 tt (((f.l.t.take j).map (·.v)).foldl I8 a.1)))) mi=some (.map (D2 tt (((f.l.t.take j).map (·.v)).foldl I8 a.1))):=A0 _ _;by_cases r:j<f.l.t.length
  ·have u:decide ((j:Int)<f.l.t.length)=true:=D1b (by omega);have L:(j:Int)<f.l.t.length:=by omega
   have x:(((f.l.t.take j).map (·.v)).foldl I8 a.1).Nodup:=V3 _ _ W;have z:((f.l.t.take (j+1)).map (·.v)).foldl I8 a.1=I8 (((f.l.t.take j).map (·.v)).foldl I8 a.1) f.l.t[j].v:=by
    rw[D1s r,D2Z,D2R];rfl
   generalize hM:((f.l.t.take j).map (·.v)).foldl I8 a.1=M at x z g q⊢;generalize i:Cs.set mi (.map (D2 tt M))=Ds at g q⊢;repeat' (first|with_reducible apply D1Z|simp only[go_sem,seval,u,L,A9 _ _ r,C0 _ _ r,g,q,i6 _ _ _ _ x,A3V]|simp(disch:=omega) only[A4,A9,C3]|simp(disch:=first|omega|grind) only[B3]|intro m|omega)
   rename_i O;have y:=m;clear m;have n7:mi≠O:=fun e=>by rw[←e,g]at y;cases y
   have T:bi≠O:=fun e=>by rw[←e,q]at y;cases y
   repeat' (first|with_reducible apply D1Z|simp only[go_sem,seval,g,q,i6 _ _ _ _ x,A3V,A3 _ n7,A3 _ T]|simp(disch:=omega) only[A4,A9,C3]|simp(disch:=first|omega|grind) only[B3]|intro m|omega)
   refine C1 (j+1) (by omega) (by omega) (by(try simp only[go_sem,seval])<;>(try simp(disch:=omega) [A4])) ?_;rw[z,←i];rw[←i]at y;intro k o hk;by_cases C:k=mi
   ·subst C;rw[A0]at hk⊢;exact hk
   ·rw[A3 _ C]at hk⊢;have g2:k≠O:=fun e=>by subst e;rw[A3 _ C,hk]at y;cases y
    rw[A3 _ g2,A3 _ C];exact hk
  ·have u:decide ((j:Int)<f.l.t.length)=false:=D1c (by omega);rw[D1o (by omega)]at g q⊢;repeat' simp only[go_sem,seval,u]
   refine D21 (B1n a (A5x a f d) H _ g (by rw[A3 _ f1.symm];exact J) q (by rw[A3 _ f4];exact c4) (fun k o G U=>by rw[A3 _ (I k G).1];exact cH k o G U)) h
theorem B8N{bi bb mi mb:Nat}(F:C0p bi bb mi mb):Vis Tryz.prog (List ByteArray×List ByteArray) 86 [.box bb 0,.box bi 0] (R6 bi bb mi mb) A5x (fun a=>a.1.Nodup∧a.2.Nodup) (fun _=>True) where
 dom a a' i h:=B8F a a' i h
 inv a f d h:=by
  refine⟨V3 _ _ h.1,?_⟩;unfold A5x;simp only[];split
  ·exact A3U h.2
  ·exact h.2
 base _ _ _ _ _:=trivial
 call a f d H Q hI _ fa h:=B8M F a hI.1 hI.2 f fa d H Q h
theorem B8O{H:Heap}{b:Nat}{o:Av.Obj}(h:H b=some o):H.set b o=H:=by
 funext k
 unfold Av.Heap.set;by_cases e:k=b
 ·subst e;rw[if_pos rfl,h]
 ·rw[if_neg e]
theorem B8P{S H:Heap}(h: ∀k o,S k=some o→H k=some o):ovr S H=H:=by
 funext k
 unfold ovr;cases g:S k with
 |none=>rfl
 |some o=>exact(h k o g).symm
theorem A9l{Q}(l:List Fm)(fl: ∀f∈l,FmFit f)(hlen:l.length≤1466015503658)(H:Heap)(h:Q (.tuple [.fm (D2 tt (K1 (D9.intsL l))),.fm (D2 tt (K1 (C7.boolsL l)))]) H):D8 45 [.sl 7 (Rw B9 l)] H Q:=by
 refine A8 [(7,.ord [0,1,2,3])] A5 Tryz.func45 rfl ?_;simp only[go_sem,seval,Tryz.results45];repeat' (first|simp only[go_sem,seval]|simp(disch:=first|omega|grind) only[B3,F1]|(intro x;try simp only[A6]at x))
 rename_i j h2 m h3 q h6 u;have h7:=x;clear x;obtain⟨F,e1,e2,e3,e4,G⟩:C0p j m q u∧((((((H.set j (.box [.nilmap])).set m (.box [.nilmap])).set q (.map [])).set u (.map [])).set j (.box [.map q])).set m (.box [.map u])) q=some (.map [])∧((((((H.set j (.box [.nilmap])).set m (.box [.nilmap])).set q (.map [])).set u (.map [])).set j (.box [.map q])).set m (.box [.map u])) u=some (.map [])∧((((((H.set j (.box [.nilmap])).set m (.box [.nilmap])).set q (.map [])).set u (.map [])).set j (.box [.map q])).set m (.box [.map u])) j=some (.box [.map q])∧((((((H.set j (.box [.nilmap])).set m (.box [.nilmap])).set q (.map [])).set u (.map [])).set j (.box [.map q])).set m (.box [.map u])) m=some (.box [.map u])∧H.Le ((((((H.set j (.box [.nilmap])).set m (.box [.nilmap])).set q (.map [])).set u (.map [])).set j (.box [.map q])).set m (.box [.map u])):=by
  obtain⟨I,W⟩:=h3;obtain⟨J,L,X⟩:=h6;obtain⟨M,O,T,Y⟩:=h7;refine⟨⟨M.symm,L.symm,T.symm,J.symm,O.symm,I.symm⟩,?_,?_,?_,?_,fun k o hk=>?_⟩
  ·simp[Av.Heap.set,J,L,M.symm]
  ·simp[Av.Heap.set,O,T]
  ·simp[Av.Heap.set,I.symm]
  ·simp[Av.Heap.set]
  ·have k1:k≠j:=fun e=>by rw[e,h2]at hk;cases hk
   have k2:k≠m:=fun e=>by rw[e,W]at hk;cases hk
   have U:k≠q:=fun e=>by rw[e,X]at hk;cases hk
   have V:k≠u:=fun e=>by rw[e,Y]at hk;cases hk
   simp[Av.Heap.set,k1,k2,U,V,hk]
 generalize ((((((H.set j (.box [.nilmap])).set m (.box [.nilmap])).set q (.map [])).set u (.map [])).set j (.box [.map q])).set m (.box [.map u]))=C at e1 e2 e3 e4 G⊢;have eG:ovr (R6 j m q u ([],[])) C=C:=B8P fun k o hk=>by
  unfold R6 at hk;split at hk
  ·rename_i g;rw[g,e1];exact hk
  ·split at hk
   ·rename_i g;rw[g,e2];exact hk
   ·split at hk
    ·rename_i g;rw[g,e3];exact hk
    ·split at hk
     ·rename_i g;rw[g,e4];exact hk
     ·cases hk
 rw[←eG];have a0: ∀p,H.Le ((ovr (R6 j m q u p) C).del q |>.del u):=fun p k o hk=>by
  have k1:k≠j:=fun e=>by rw[e,h2]at hk;cases hk
  have k2:k≠m:=fun e=>by rw[e,h3.2]at hk;cases hk
  have U:k≠q:=fun e=>by rw[e,h6.2.2]at hk;cases hk
  have V:k≠u:=fun e=>by rw[e,h7.2.2.2]at hk;cases hk
  rw[F1 V,F1 U,A2y (by simp[R6,k1,k2,U,V])];exact G _ _ hk
 refine C2 [2,3,8,9] (fun(p:Nat×(List ByteArray×List ByteArray))=>[(10,.int .i64 p.1)]) (fun(p:Nat×(List ByteArray×List ByteArray))=>ovr (R6 j m q u p.2) C) (fun(p:Nat×(List ByteArray×List ByteArray))=>p.1≤l.length∧p.2=(K1 (D9.intsL (l.take p.1)),K1 (C7.boolsL (l.take p.1)))) (fun(p:Nat×(List ByteArray×List ByteArray))=>l.length-p.1) ((0,([],[]))) (⟨D1u _,rfl⟩) (by simp only[go_sem,seval]) (D20 _) ?_;rintro Ec rfl ⟨i,r⟩ ⟨hi,hr⟩;simp only at hi hr;by_cases y:i<l.length
 ·have A:decide ((i:Int)<l.length)=true:=D1b (by omega);have a4:(i:Int)<l.length:=by omega
  have hm:=D1n y;repeat' (first|with_reducible apply D1Z|simp only[go_sem,seval,A,a4,A9 _ _ y,C0 _ _ y]|(intro x;try simp only[A6]at x)|omega)
  rename_i b5;have h5:=x;clear x;obtain⟨s5,g5⟩:=A1M h5;rw[A9k s5];refine B3B (B8N F) l[i] (fl _ hm) 1 r ⟨by rw[hr];exact A1l _,by rw[hr];exact A1l _⟩ _ trivial ?_;rw[B7Q];repeat' (first|simp only[go_sem,seval]|simp(disch:=omega) only[A4,A9,C3,A0Y,i7])
  refine C1 (i+1,_) ⟨by simp only[];omega,?_⟩ (by simp only[];omega) (by(try simp only[go_sem,seval])<;>(try simp(disch:=omega) [A4])) (B3A (A2 g5));show (List.foldl I8 r.1 _,List.foldl I8 r.2 _)=_;rw[hr,A0Y _ _ y,i7 _ _ y];unfold K1;rw[D2R,D2R]
 ·have A:decide ((i:Int)<l.length)=false:=D1c (by omega);rw[D1o (by omega)]at hr;obtain⟨q1,q2,q3,q4⟩:=B1m F r C;have z:=a0 r;have qn:j≠m:=F.f;have f2:=F.b;have f3:=F.c;have f4:=F.d;have f5:=F.e;generalize ovr (R6 j m q u r) C=Bs at q1 q2 q3 q4 z⊢;have m2:j∈[j,m]:=by simp
  have m3:m∈[j,m]:=by simp
  repeat' simp only[go_sem,seval,A]
  refine C3P [j,m] ?_;have s2:Bs.set j (.box [.map q])=Bs:=B8O q3;have s3:Bs.set m (.box [.map u])=Bs:=B8O q4;repeat' (first|with_reducible apply D1Z|simp only[go_sem,seval,q3,q4,m2,m3,s2,s3]|(intro x;try simp only[A6]at x))
  all_goals first
   |(subst x;assumption)
   |skip
  rw[hr]at q1 q2;exact A95 q1 q2 F.a.symm (D21 z h)
theorem B3F{Q}(ks ms:List ByteArray)(H:Heap)(h:Q (.bool (meetL ks ms)) H):D8 56 [.fm (D2 tt ks),.fm (D2 tt ms)] H Q:=by
 refine A8 [] A5 Tryz.func56 rfl ?_;simp only[go_sem,seval,Tryz.results56];have e:(D2 tt ks).length=ks.length:=by simp[D2]
 repeat' intro o
 rename_i m;have C:=o;clear o;refine C2 [1,7] (fun(s:List Nat)=>[]) (fun(s:List Nat)=>H.set m (.rng (D2 tt ks) s)) (fun(s:List Nat)=>∀(i:Nat) (d:i<ks.length),i∈s→ks[i]∉ms) (fun(s:List Nat)=>A7J ks.length s) ([]) (fun _ _ h=>absurd h D12) (by simp only[go_sem,seval]) (D20 _) ?_;rintro J rfl s hs;have G:(H.set m (.rng (D2 tt ks) s)) m=some (.rng (D2 tt ks) s):=A0 _ _;have u:H.Le (H.set m (.rng (D2 tt ks) s)):=A2 C;repeat' simp only[go_sem,seval,G]
 refine A9C (fun i d hn=>?_) (fun p=>?_)
 ·rw[e]at d;have z:((H.set m (.rng (D2 tt ks) s)).set m (.rng (D2 tt ks) (s++[i]))) m=some (.rng (D2 tt ks) (s++[i])):=A0 _ _;have A:(D2 tt ks)[i]? =some (.str ks[i],.bool true):=by simp[D2,d]
  have r:(D2 tt ks)[i]'(by rw[e];exact d)=(.str ks[i],.bool true):=by simp[D2]
  by_cases g:ks[i]∈ms
  ·have hm:meetL ks ms=true:=(A1G _ _).2 ⟨_,D1n d,g⟩;rw[hm]at h;repeat' simp only[go_sem,seval,z,A,r,List.getLast?_concat,A2u,if_pos g]
   exact D21 (by simp only[D7,C9,D0]at* <;>grind) h
  ·repeat' simp only[go_sem,seval,z,A,r,List.getLast?_concat,A2u,if_neg g]
   refine C1 (s++[i]) (fun j I hm=>?_) (A2Q d hn) (by simp only[go_sem,seval]) ?_
   ·rcases D1z.1 hm with q|q
    ·exact hs j I q
    ·rw[D10]at q;subst q;exact g
   ·exact(by simp only[D7,C9,D0]at* <;>grind)
 ·have hm:meetL ks ms=false:=by
   rw[←D2v,A1G];rintro⟨x,hx,y⟩;obtain⟨i,d,rfl⟩:=List.getElem_of_mem hx;exact hs i d (p i (by rw[e];exact d)) y
  rw[hm]at h;repeat' simp only[go_sem,seval]
  exact D21 u h
end Go.Proofs.YtibphjonmikciaaGreatDoor
namespace Go.Proofs.YtibphjonmikciaaGreatDoor
open Go Go.Av Go.RowKit Go.Maps Go.Sort Go.Shelf Go.Lexs Go.WideElems Go.Lin
theorem A9m{Q}(kvs:List (D×D))(H:Heap)(h: ∀bk,H bk=none→Q (.fn (.func 89) [] [.box bk 0]) (H.set bk (.box [.fm kvs]))):D8 47 [.fm kvs] H Q:=by
 refine⟨by kernel_rfl,fun w vs hl hr hs=>?_⟩;obtain⟨a,rfl,m⟩:=A2C hl hr;obtain⟨b,o⟩: ∃b,a= .map (some b):=by cases m;exact⟨_,rfl⟩
 subst o;refine(callsIn_wide.1 (A0p (some b) w)).mono ?_;rintro e w' ⟨rfl,rfl⟩;have hp:=A3i (K:=fun d H'=>∃bk,d= .box bk 0∧H bk=none∧H'=H.set bk (.box [.fm kvs])) hs (cs:=[.fm kvs]) (vs:= #[.map (some b)]) 72 (Z:=none) (by simp) ⟨rfl,fun i d g=>(match i,g with|0,g=>by cases g;rfl|i+1,g=>by cases g),fun i d g=>(match i,g with|0,g=>by cases g;exact m|i+1,g=>by cases g)⟩ (fun bk j=>⟨bk,rfl,j,rfl⟩);obtain⟨d,x,p,q,r,u,bk,rfl,j,rfl⟩:=hp;refine⟨_,rfl,.fn (.func 89) [] [.box bk 0],_,?_,q,r,u,h bk j⟩;refine .fn _ [] [.box bk 0] #[] #[_] rfl rfl (by simp) fun i d g=>?_
 match i with
 |0=>cases g;exact p
 |i+1=>cases g
theorem A9n{Q}(u:Nat)(f:ByteArray→D)(ks:List ByteArray)(hlen:ks.length≤1000000000)(hsz: ∀s∈ks,s.size≤4611686018427387904)(H:Heap)(h1:H u=some (.box [.fm (D2 f ks)]))
  (h: ∀l:List ByteArray,l.Pairwise (fun x y=>X2 x y=true)→(∀s,s∈l↔s∈ks)→Q (.sl 1 (Rw L7 l)) H):D8 46 [.fn (.func 89) [] [.box u 0]] H Q:=by
 refine⟨by kernel_rfl,fun w vs hl hr hs=>?_⟩;obtain⟨a,rfl,ha⟩:=A2C hl hr;have ea:a= .func (.func 89) #[] #[.pointer (some ⟨u,0,none⟩)]:=by
  cases ha with
  |fn _ _ _ a9 b0 b1 b2 q1 q2=>
   have e1:a9= #[]:=Array.eq_empty_of_size_eq_zero (by simpa using b1.symm);obtain⟨l2⟩:=b0
   match l2,b2 with
   | [x],_=>
    have hx:=q2 0 _ rfl;have:x= .pointer (some ⟨u,0,none⟩):=by
     simp at hx;cases hx;rfl
    rw[e1,this]
 subst ea;obtain⟨c,T,lo,A,c1,_,c2,c3,_⟩:=hs _ _ h1;have h0:=(c3 0 (.fm (D2 f ks)) rfl).2;obtain⟨b,es,m,hx,m1,m2,m3,m4⟩: ∃b es m,c.getD 0 undef= .map (some b)∧w.heap[b]? =some (.map es m)∧MapKept.Stamped es m∧es.size=(D2 f ks).length∧∀(i:Nat) (p:D×D),(D2 f ks)[i]? =some p→p.1.keyA=true∧R w H p.1 (es.getD i default).key∧R w H p.2 (es.getD i default).val:=by
  revert h0;generalize c.getD 0 undef=x;intro h0;cases h0 with
  |fm _ b es ck hb hn hst hl hk hr hv=>exact⟨b,es,ck,rfl,hb,hst,hl,fun i p hp=>⟨hk i p hp,hr i p hp,hv i p hp⟩⟩
 have b3:c[0]? =some (.map (some b)):=by
  have hsz:0<c.size:=by rw[c2];simp
  have e:c[0]? =some (c.getD 0 undef):=by simp[hsz]
  rw[e,hx]
 have G:w.cell? ⟨u,0,none⟩=some (.map (some b)):=by
  unfold World.cell?;simp only[c1];exact b3
 have b4:u<w.heap.size:=hs.lt h1;have O: ∀(i:Nat) (A:i<ks.length),(es.getD i default).key= .string ks[i]:=fun i A=>by
  have:=(m4 i (.str ks[i],f ks[i]) (by simp[D2,A])).2.1;revert this;generalize (es.getD i default).key=x;intro this;cases this;rfl
 have U:es.size=ks.length:=by rw[m3];simp[D2]
 have I:es.toList.map (·.key)=ks.map .string:=by
  apply D2u
  ·simp[U]
  ·intro i h1 h2;have A:i<ks.length:=by simpa using h2
   have:=O i A;have o:i<es.size:=by omega
   simp[o]at this;simp[this]
 have V: ∀x∈es.toList,∃s∈ks,x.key= .string s:=fun x hx=>by
  have:x.key∈es.toList.map (·.key):=D2X.2 ⟨x,hx,rfl⟩;rw[I]at this;obtain⟨s,hs,e⟩:=D2X.1 this;exact⟨s,hs,e.symm⟩
 have W:Tryz.prog.underlying 9=some .string:=by kernel_rfl
 have X: ∀x∈es.toList,∀s,s∈ks→x.key= .string s→WideElems.rd (H:=Unit) Tryz.prog 9 A1z x=some (.string s.data.toList,.lit (.bool true)):=fun x _ s hs e=>by
  unfold WideElems.rd;rw[e,WideMaps.keyOf_string_mk W (by have:=hsz s hs;unfold maxLen;omega)];rfl
 have Y:w.ownsMap (H:=Unit) Tryz.prog 9 A1z b es.size (.map ((es.toList.map (rg Tryz.prog 9 A1z)).foldr DataW.insert [])):=by
  refine⟨es,m,m1,⟨by unfold maxLen;omega,m2,fun x hx=>?_⟩,D1t _,rfl⟩;obtain⟨s,hs,e⟩:=V x hx;exact⟨_,X x hx s hs e⟩
 have b6: ∀x∈es.toList,∀s,s∈ks→x.key= .string s→rg (H:=Unit) Tryz.prog 9 A1z x=(.string s.data.toList,.lit (.bool true)):=fun x hx s hs e=>rg_of (X x hx s hs e);have b7:(strKeys (H:=Unit) (.map ((es.toList.map (rg Tryz.prog 9 A1z)).foldr DataW.insert []))).Perm (ks.map B):=by
  show (((es.toList.map (rg Tryz.prog 9 A1z)).foldr DataW.insert []).map fun p=>strOf p.1).Perm _;refine((A0R _).map _).trans ?_;rw[List.map_map];have:es.toList.map ((fun p=>strOf p.1) ∘ rg (H:=Unit) Tryz.prog 9 A1z)=ks.map B:=by
   have e2:ks.map B=(es.toList.map (·.key)).map (fun v=>match v with| .string s=>B s|_=>[]):=by rw[I,List.map_map];rfl
   rw[e2,List.map_map];refine List.map_congr_left fun x hx=>?_;obtain⟨s,hs,e⟩:=V x hx;simp only[Function.comp];rw[b6 x hx s hs e,e];rfl
  rw[this]
 have b8:(ks.map B).Nodup:=by
  have:=m2.2.2;rw[I]at this;have h2:List.Pairwise (fun a b:ByteArray=>Value.string a≠Value.string b) ks:=List.pairwise_map.1 this;have M:List.Pairwise (fun a b:ByteArray=>B a≠B b) ks:=h2.imp fun {a b} h e=>h (congrArg Value.string (N7 e));exact List.pairwise_map.2 M
 have a0:=AnyZ.keys_gives (ρ :=Tryz.keys47_ren) {A2a with} Fence.wide 2 trivial rfl (by omega) u b es.size _ w b4 G Y;have a4:Maps.size (.map ((es.toList.map (rg (H:=Unit) Tryz.prog 9 A1z)).foldr DataW.insert []):DataW Unit)=ks.length:=by
  show (((es.toList.map (rg Tryz.prog 9 A1z)).foldr DataW.insert [])).length=_;rw[(A0R _).length_eq];simp[U]
 refine(callsIn_wide.1 (AnyZ.sorted_in A3D Fence.wide 5 trivial trivial trivial trivial rfl (by omega) (A4V _) (enters_of Tryz.func88 (by kernel_rfl) rfl) 89 #[.pointer (some ⟨u,0,none⟩)] trivial (enters_of Tryz.func89 (by kernel_rfl) rfl) _ _ (by rw[a4];unfold maxLen;omega) (by rw[a4];omega) w a0)).mono ?_;rintro e w' ⟨v,q,rfl,hS,C,_,hB⟩;have hp:q.Perm (ks.map B):=hS.trans b7;have b9:q.Nodup:=hp.nodup_iff.2 b8;have c0:=B3v b9;have a5: ∀s,s∈(q.mergeSort (fun x y=>decide (x≤y))).map S↔s∈ks:=fun s=>by
  rw[D2X];constructor
  ·rintro⟨x,hx,rfl⟩;have:=hp.mem_iff.1 ((List.mergeSort_perm q _).mem_iff.1 hx);obtain⟨t,ht,rfl⟩:=D2X.1 this;rw[S_B];exact ht
  ·intro hs;refine⟨B s,(List.mergeSort_perm q _).mem_iff.2 (hp.mem_iff.2 (D2X.2 ⟨s,hs,rfl⟩)),S_B s⟩
 refine⟨v,rfl,.sl 1 (Rw L7 ((q.mergeSort (fun x y=>decide (x≤y))).map S)),H,?_,A4p hs hB,A2j hB,D24 _ _,h _ c0 a5⟩;have J:((q.mergeSort (fun x y=>decide (x≤y))).map S).length=q.length:=by simp
 generalize q.mergeSort (fun x y=>decide (x≤y))=zs at C J⊢;obtain⟨r1,r2⟩:=C;rcases r2 with⟨rfl,r3⟩|⟨g,cap,r,rfl,r3,r4,r5,r6,r7,r8⟩
 ·have:zs.map S= []:=D1x (by rw[J,r3]);rw[this];exact .sl0 _ _ _
 ·have L:(Rw L7 (zs.map S)).length=q.length:=by rw[D6,J]
  rw[←L];refine .sl 1 _ g 0 cap (fun i j=>r.getD i undef) ?_ ?_ (fun i e he=>?_) (by rw[L];exact r5) (fun i j A hj=>?_) (fun i e j d he hd=>?_) (fun i e j d he hd=>?_)
  ·by_cases a6:g<w'.heap.size
   ·exact a6
   ·rw[Array.getElem?_eq_none (Nat.le_of_not_lt a6)]at r4;cases r4
  ·exact I0 (hs.fresh r3)
  ·rw[Rw,D1w]at he;obtain⟨x,_,rfl⟩:=D1i.1 he;rfl
  ·have c4:j=0:=by omega
   subst c4;have o:i<r.size:=by rw[L]at A;rw[r7];omega
   unfold World.cell?;simp only[r4];simp[o]
  ·rw[Rw,D1w]at he;obtain⟨x,_,rfl⟩:=D1i.1 he
   match j with
   |0=>cases hd;rfl
   |j+1=>cases hd
  ·rw[Rw,D1w,D1w]at he;obtain⟨x,hx,rfl⟩:=D1i.1 he;obtain⟨z,hz,rfl⟩:=D1i.1 hx
   match j with
   |0=>
    cases hd;have A:i<zs.length:=(D1j.1 hz).1;have M:(r.toList.take (q.length*1))[i]? =some (encStr z):=by rw[r8,D1w,hz];rfl
    rw[List.getElem?_take]at M;split at M
    ·have:r[i]? =some (encStr z):=by simpa using M
     have e:r.getD i undef=encStr z:=by
      have o:=(D1y.1 this)
      obtain⟨c5,c6⟩:=o;simp[c5,c6]
     rw[e];exact .str _
    ·cases M
   |j+1=>cases hd
end Go.Proofs.YtibphjonmikciaaGreatDoor
namespace Go.Proofs.YtibphjonmikciaaGreatDoor
open Go Go.Av Go.Lexs Go.Lin Go.Fo
attribute [local irreducible] ACalls Q4
theorem A4J{Q}{b n:Nat}{H0:Heap}(d:H0 b=none)(f:Fm)(e:FmFit f)(hn:n=1)(h:Q (.tuple [.fm (D2 tt (K1 (D9 f))),.fm (D2 tt (K1 (C7 f)))]) H0):D8 45 [.vec b 7 0 n] (H0.set b (.vec 7 [B9 f])) Q:=by
 subst hn;refine V6 (es:=Rw B9 [f]) (A0 _ _) rfl ?_;rw[E6 d];refine A9l [f] (fun k hk=>by rw[D10]at hk;rw[hk];exact e) (by simp) _ ?_;have e1:D9.intsL [f]=D9 f:=by simp[D9.intsL]
 have e2:C7.boolsL [f]=C7 f:=by simp[C7.boolsL]
 rw[e1,e2];exact h
theorem S4{Q}(f:Fm)(z:FmFit f)(L:VOk f)(H:Heap)(h:Q (.bool (E3 f)) H):D8 18 [.agg (B9 f)] H Q:=by
 refine A8 [] A5 Tryz.func18 rfl ?_;simp only[go_sem,seval,Tryz.results18];rw[←B1o L]at h;intro p h1;have e1:(H.set p (.box (B9 f))) p=some (.box (B9 f)):=A0 _ _;have q:H.Le (H.set p (.box (B9 f))):=A2 h1;generalize H.set p (.box (B9 f))=Bs at e1 q⊢;repeat' (first|simp only[go_sem,seval,e1]|simp(disch:=first|omega|grind) only[B3]|intro j|with_reducible refine C0q f z _ ?_)
 rename_i i;have y:=j;clear j;have r:p≠i:=fun e=>by rw[←e,e1]at y;cases y
 have A:(Bs.set i (.box [.bool (Y2 f)])) p=some (.box (B9 f)):=by rw[A3 _ r];exact e1
 repeat' (first|with_reducible apply D1Z|simp only[go_sem,seval,A]|simp(disch:=omega) only[A4,C3]|simp(disch:=first|omega|grind) only[B3]|intro j|omega)
 refine Eq.mpr (congrArg (fun X=>ACalls _ _ _ X _) (D0G i (Y2 f) Bs)) ?_;refine B3B (B8L i) f z 1 (Y2 f) trivial _ trivial ?_;rw[B7O];have e3:ovr (z7 i (Y2 f&&G8 D5 f)) Bs i=some (.box [.bool (Y2 f&&G8 D5 f)]):=A0z (o:=B8E _) (by simp[z7]);have M:ovr (z7 i (Y2 f&&G8 D5 f)) Bs p=some (.box (B9 f)):=by rw[A2y (by simp[z7,r])];exact e1
 have d:H.Le (ovr (z7 i (Y2 f&&G8 D5 f)) Bs):=fun k o hk=>by
  have U:k≠i:=fun e=>by subst e;rw[q _ _ hk]at y;cases y
  rw[A2y (by simp[z7,U])];exact q _ _ hk
 generalize ovr (z7 i (Y2 f&&G8 D5 f)) Bs=Cs at e3 M d⊢;cases m:Y2 f&&G8 D5 f with
 |false=>
  rw[m]at h e3;simp only[Bool.false_and]at h;repeat' simp only[go_sem,seval,e3]
  exact D21 d h
 |true=>
  rw[m]at h e3;simp only[Bool.true_and]at h;have u:G8 D5 f=true:=by rw[D1m]at m;exact m.2
  have hw:J5 f≤1000000:=by
   rcases L with g|g
   ·exact g
   ·rw[u]at g;cases g
  have V:=A39 f;have k1:=A59 (D9 f);have k2:=A59 (C7 f);have O:=A4A (D9 f);have T:=A4A (C7 f);have C:(D2 tt (K1 (D9 f))).length=(ivF f).length:=by rw[show (D2 tt (K1 (D9 f))).length=(K1 (D9 f)).length by simp[D2],O];rfl
  have G:(D2 tt (K1 (C7 f))).length=(bvF f).length:=by rw[show (D2 tt (K1 (C7 f))).length=(K1 (C7 f)).length by simp[D2],T];rfl
  have W:(ivF f).length≤1000000:=by have:(K1 (D9 f)).length=(ivF f).length:=O;omega
  have Y:(bvF f).length≤1000000:=by have:(K1 (C7 f)).length=(bvF f).length:=T;omega
  have I:meetL (K1 (D9 f)) (K1 (C7 f))=meetL (ivF f) (bvF f):=A1m (fun x=>by unfold ivF;rw[G4,U2]) (fun x=>by unfold bvF;rw[G4,U2]);have J:decide ((ivF f).length+(bvF f).length≤12)=decide (((ivF f).length:Int)+(bvF f).length≤12):=D2C.2 (by omega);rw[J,←I]at h;generalize meetL (K1 (D9 f)) (K1 (C7 f))=mt at h I;have bc: ∀(H:Heap) (Q:D→Heap→Prop),Q (.bool mt) H→D8 56 [.fm (D2 tt (K1 (D9 f))),.fm (D2 tt (K1 (C7 f)))] H Q:=fun H Q hq=>B3F _ _ H (by rw[A1m (l':=ivF f) (m':=bvF f) (fun x=>by unfold ivF;rw[G4,U2]) (fun x=>by unfold bvF;rw[G4,U2]),←I];exact hq);repeat' (first|with_reducible apply D1Z|simp only[go_sem,seval,e3,M,C,G]|simp(disch:=omega) only[A4,C3]|intro j|with_reducible refine A4J (by assumption) f z rfl ?_|with_reducible refine bc _ _ ?_)
  all_goals (refine D21 d ?_;simp_all)
theorem C4e{Q}(f:Fm)(j:FmFit f)(p:VOk f)(H:Heap)(h:Q (if E3 f=true then .tuple [.sl 1 (Rw L7 (ivF f)),.sl 1 (Rw L7 (bvF f)),.int .i64 0]else .tuple [.sl 1 [],.sl 1 [],.int .i64 2]) H):D8 14 [.agg (B9 f)] H Q:=by
 refine A8 [] A5 Tryz.func14 rfl ?_;simp only[go_sem,seval,Tryz.results14];intro o h1;have e1:(H.set o (.box (B9 f))) o=some (.box (B9 f)):=A0 _ _;have e:H.Le (H.set o (.box (B9 f))):=A2 h1;generalize H.set o (.box (B9 f))=Bs at e1 e⊢;cases hv:E3 f with
 |false=>
  rw[hv]at h;simp only[D1p,if_false]at h;have q: ∀(H:Heap) (Q:D→Heap→Prop),Q (.bool false) H→D8 18 [.agg (B9 f)] H Q:=fun H Q hq=>S4 f j p H (by rw[hv];exact hq);repeat' (first|simp only[go_sem,seval,e1]|with_reducible refine q _ _ ?_)
  refine D4 (d':=.tuple [.sl 1 [],.sl 1 [],.int .i64 2]) (.tuple _ _ rfl fun i d d' h1 r=>?_) (D21 e h)
  match i with
  |0=>cases h1;cases r;exact .nil 1
  |1=>cases h1;cases r;exact .nil 1
  |2=>cases h1;cases r;exact .same _
  |i+3=>cases h1
 |true=>
  rw[hv]at h;simp only[if_true]at h;have q: ∀(H:Heap) (Q:D→Heap→Prop),Q (.bool true) H→D8 18 [.agg (B9 f)] H Q:=fun H Q hq=>S4 f j p H (by rw[hv];exact hq);repeat' (first|simp only[go_sem,seval,e1]|intro y|with_reducible refine q _ _ ?_|with_reducible refine A4J (by assumption) f j rfl ?_)
  refine A9m _ _ fun z u=>?_;have hw:J5 f≤1000000:=by
   rcases p with g|g
   ·exact g
   ·rw[M5 hv]at g;cases g
  have A:=A39 f;have C:=A59 (D9 f);have G:=A59 (C7 f);repeat' simp only[go_sem,seval]
  refine A9n z tt (K1 (D9 f)) (by omega) (fun s hs=>by have:=B5K j s ((G4 _ _).1 hs);omega) _ (A0 _ _) fun v hv hm=>?_;have ev:v=ivF f:=A6u hv (A9Y _) fun s=>by rw[hm,G4];exact(U2 _ _).symm
  rw[ev];repeat' simp only[go_sem,seval]
  refine A9m _ _ fun x m=>?_;repeat' simp only[go_sem,seval]
  refine A9n x tt (K1 (C7 f)) (by omega) (fun s hs=>by have:=B2q j s ((G4 _ _).1 hs);omega) _ (A0 _ _) fun v hv hm=>?_;have ev:v=bvF f:=A6u hv (A9Y _) fun s=>by rw[hm,G4];exact(U2 _ _).symm
  rw[ev];repeat' simp only[go_sem,seval]
  exact D21 ((e.trans (A2 u)).trans (A2 m)) h
end Go.Proofs.YtibphjonmikciaaGreatDoor
namespace Go.Av
theorem A9o{P:Program}{f:Nat}(Z:List (Nat×Rc)){fn:Func}{M o rest:Code}{id s p r t t' e sz:Nat}{ops:Array Oper}{o1 o2:Oper}{args:List D}{H:Heap}{Q:D→Heap→Prop}(hm:P.follows .mixedOrders=true)(hf:P.funcs[f]? =some fn)
  (hb:fn.body=some (.seq M (.seq (.seq (.region id ops false) o) rest))) (U:A13 P f=true) (hn:args.length≤fn.ntmps) (ho:ops.toList= [o1,o2]) (V:o1.dst=some s) (y:o1.op= .move (.tmp p)) (W:o1.guard=none)
  (X:o2.dst=some r) (z:o2.op= .binOp .eql t (.tmp s) (.const (.slice none 0 0)) t') (Y:o2.guard=none) (hs:s<fn.ntmps) (hr:r<fn.ntmps) (A:P.underlying t=some (.slice e)) (a0:O4 P [] fn.ntmps M=true) (C:O4 P Z fn.ntmps o=true) (G:O4 P Z fn.ntmps rest=true)
  (h:wp P [] M (fun x E H=>x= .normal∧E.get p= .sl sz []∧∀b:Bool,wp P Z (.seq o rest) (A83 P fn.results.toList Q) ((E.put (some s) (.sl sz [])).put (some r) (.bool b)) H) (W9 0 args) H):ACalls P f args H Q:=by
 refine⟨U,fun w vs hl hR hS=>calls_of_wp hf hb ?_⟩;have hst:St fn.ntmps w H (W9 0 args) H {tmps:=vs++Array.replicate (fn.ntmps-vs.size) undef,defers:=[]} w:=by
  refine⟨by simp;omega,rfl,fun i=>?_,hS,D26 _ _,D24 _ _⟩;rw[A0L,if_pos (D1u _),Nat.sub_zero];cases hi:args[i]? with
  |none=>exact .undef _
  |some d=>
   have b2:=(D1j.1 hi).1;have:({tmps:=vs++Array.replicate (fn.ntmps-vs.size) undef,defers:=[]}:Act).eval (.tmp i)=vs.getD i undef:=by
    simp only[Act.eval];exact G2 (by omega)
   rw[this];exact hR i d hi
 have fin: ∀(x:AX) (E:Env) (H':Heap) (a:Act) (w':World),(x= .normal∨x= .ret)→St fn.ntmps w H E H' a w'→A83 P fn.results.toList Q x E H'→
   a.defers= []∧∃v,(results fn a.tmps).run P w'= .ok v w'∧∃v',Ending.returned v= .returned v'∧Post H w Q v' w':=by
  intro x E H' a w' hx g hq;have a4: ∃r,A3J P fn.results.toList E H'=some r∧∃O T,Shift H' r O T∧Q T O:=by rcases hx with rfl|rfl<;>exact hq
  obtain⟨r,hr,O,T,a5,hQ⟩:=a4;obtain⟨v,hv,a6⟩:=A2i (P:=P) g hr;obtain⟨k1,k2,k3⟩:=a5 _ _ a6 g.sat;exact⟨g.defers,v,hv,v,rfl,T,O,k1,k2,g.ext,fun k hk hn=>k3 k (g.frm k hk hn),hQ⟩
 refine Go.wp_seq (Go.wp_mono (A0K hm M _ _ _ _ _ a0 h hst) fun x a w' he=>?_);cases x with
 |normal=>
  obtain⟨E,H',g,_,hp,hq⟩:=he;refine Go.wp_seq (Go.wp_seq (A0E (F:=none) (K:=fun a' I=>∃b:Bool,St fn.ntmps w H ((E.put (some s) (.sl sz [])).put (some r) (.bool b)) H' a' I) (fun a' I hk=>?_) ?_))
  ·obtain⟨b,J⟩:=hk;refine Go.wp_mono (A0K hm o _ _ _ _ _ C (hq b) J) fun x a w' he=>?_;cases x with
   |normal=>
    obtain⟨E,H',g,hq⟩:=he;refine Go.wp_mono (A0K hm rest _ _ _ _ _ G hq g) fun x a w' he=>?_;cases x with
    |normal=>obtain⟨E,H',g,hq⟩:=he;exact fin .normal E H' a w' (.inl rfl) g hq
    |ret=>obtain⟨E,H',g,hq⟩:=he;exact fin .ret E H' a w' (.inr rfl) g hq
    |exit id=>obtain⟨E,H',g,hq⟩:=he;exact hq.elim
    |_=>exact he.elim
   |ret=>obtain⟨E,H',g,hq⟩:=he;exact fin .ret E H' a w' (.inr rfl) g hq
   |exit id=>obtain⟨E,H',g,hq⟩:=he;exact hq.elim
   |_=>exact he.elim
  ·rw[ho];unfold wpA;rw[if_pos (by simp[Region.wanted,W])];have hv:=g.env p;rw[hp]at hv;unfold opSem;rw[y];refine⟨a.eval (.tmp p),fun w2=>?_,?_⟩
   ·simp only[execOp,y];rfl
   ·have j:St fn.ntmps w H (E.put (some s) (.sl sz [])) H' (a.put o1.dst (a.eval (.tmp p))) w':=by
     rw[V];exact g.put (fun t A=>by cases A;exact hs) hv g.sat (D26 _ _) (D24 _ _)
    show wpA P none ops _ [o2] (a.put o1.dst (a.eval (.tmp p))) w';unfold wpA;rw[if_pos (by simp[Region.wanted,Y])];have q:=j.env s;have a9:(E.put (some s) (D.sl sz [])).get s= .sl sz []:=by simp[Env.put,Env.get]
    rw[a9]at q;obtain⟨m,cap,L⟩: ∃m cap,(a.put o1.dst (a.eval (.tmp p))).eval (.tmp s)= .slice m 0 cap:=by
     revert q;generalize (a.put o1.dst (a.eval (.tmp p))).eval (.tmp s)=v;intro q;cases q with
     |sl0 _ m cap=>exact⟨m,cap,rfl⟩
     |sl _ _ b off cap u=>exact⟨_,_,rfl⟩
    unfold opSem;rw[z];refine⟨.bool m.isNone,fun w2=>?_,m.isNone,?_⟩
    ·have b0:Runs P (do eqGuard .eql t (.tmp s) (.const (.slice none 0 0)) (.slice m 0 cap) (.slice none 0 0);binOp .eql t (.slice m 0 cap) (.slice none 0 0)) (.bool m.isNone):=(J7 ⟨by simp,by simp⟩).bind (fun w=>by
      simp only[binOp];simp[run_equal_slice_nil w t e m 0 cap A])
     have b1:(a.put o1.dst (a.eval (.tmp p))).eval (.const (.slice none 0 0))= .slice none 0 0:=rfl;simp only[execOp,z];rw[L,b1,Sem.run_bind,b0 w2];rfl
    ·rw[X];exact j.put (fun t A=>by cases A;exact hr) (.bool _) j.sat (D26 _ _) (D24 _ _)
 |exit id=>obtain⟨E,H',g,hq⟩:=he;exact absurd hq.1 (by simp)
 |ret=>obtain⟨E,H',g,hq⟩:=he;exact absurd hq.1 (by simp)
 |_=>exact he.elim
end Go.Av
namespace Go.Fo
open Go Go.Av Go.Lexs Go.Lin
structure AH(sz:Nat)(Cs:Heap)(bx:Nat)(ac:D→List D)(es:List (List D))(n:Nat)(ob:Option Nat)(Hp:Heap):Prop where
 box:Hp bx=some (.box (ac (J8 sz n ob)))
 out:OutAt Hp sz es ob
 keep: ∀q o,q≠bx→Cs q=some o→Hp q=some o
 fresh: ∀b,ob=some b→Cs b=none∧b≠bx
theorem A1P{sz:Nat}{Cs:Heap}{bx:Nat}{ac:D→List D}(h:Cs bx=some (.box (ac .nilsl))):AH sz Cs bx ac [] 0 none Cs:=⟨h,rfl,fun _ _ _ h=>h,fun _ e=>by cases e⟩
theorem AH.ne7{sz:Nat}{Cs:Heap}{bx:Nat}{ac:D→List D}{es:List (List D)}{n:Nat}{ob:Option Nat}{Hp:Heap}(h:AH sz Cs bx ac es n ob Hp){b:Nat}(hb:Hp b=none):bx≠b:=fun e=>by rw[←e,h.box]at hb;cases hb
theorem AH.at7{sz:Nat}{Cs:Heap}{bx:Nat}{ac:D→List D}{es:List (List D)}{n:Nat}{ob:Option Nat}{Hp:Heap}(h:AH sz Cs bx ac es n ob Hp){b:Nat}(hb:Hp b=none)(o:Av.Obj):(Hp.set b o) bx=some (.box (ac (J8 sz n ob)))∧(Hp.set b o) b=some o∧OutAt (Hp.set b o) sz es ob∧∀c,ob=some c→c≠b:=by
 refine⟨by rw[A3 _ (h.ne7 hb)];exact h.box,A0 _ _,?_,fun c e g=>?_⟩
 ·cases ob with
  |none=>exact h.out
  |some c=>
   have hc:Hp c=some _:=h.out;have:c≠b:=fun e=>by rw[e,hb]at hc;cases hc
   show (Hp.set b o) c=_;rw[A3 _ this];exact hc
 ·subst e;have hc:Hp c=some _:=h.out;rw[g,hb]at hc;cases hc
theorem AH.step{sz:Nat}{Cs:Heap}{bx:Nat}{ac:D→List D}{es:List (List D)}{n:Nat}{ob:Option Nat}{Hp:Heap}(h:AH sz Cs bx ac es n ob Hp){b d:Nat}(hb:Hp b=none)(o:Av.Obj)(j:L5 (Hp.set b o) ob d=none)(c:List D):
  d≠bx∧((L5 (Hp.set b o) ob).set d (.vec sz (es++[c]))) bx=some (.box (ac (J8 sz n ob)))∧AH sz Cs bx ac (es++[c]) (n+1) (some d) (((L5 (Hp.set b o) ob).set d (.vec sz (es++[c]))).set bx (.box (ac (.vec d sz 0 (n+1))))):=by
 obtain⟨x,z,A,C⟩:=h.at7 hb o;have y:L5 (Hp.set b o) ob bx=some (.box (ac (J8 sz n ob))):=by
  cases ob with
  |none=>exact x
  |some q=>
   have:=(h.fresh q rfl).2;show Heap.del _ q bx=_;rw[F1 this.symm];exact x
 have i:d≠bx:=fun e=>by rw[e,y]at j;cases j
 have hk: ∀q o',q≠bx→Cs q=some o'→L5 (Hp.set b o) ob q=some o':=fun q o' hq m=>by
  have h1:=h.keep q o' hq m;have p:q≠b:=fun e=>by rw[e,hb]at h1;cases h1
  cases ob with
  |none=>show (Hp.set b o) q=_;rw[A3 _ p];exact h1
  |some r=>
   have u:q≠r:=fun e=>by have:=(h.fresh r rfl).1;rw[←e,m]at this;cases this
   show Heap.del _ r q=_;rw[F1 u,A3 _ p];exact h1
 refine⟨i,by rw[A3 _ i.symm];exact y,A0 _ _,?_,fun q o' hq m=>?_,fun q e=>?_⟩
 ·show (Heap.set _ bx _) d=_;rw[A3 _ i];exact A0 _ _
 ·have h1:=hk q o' hq m;have p:q≠d:=fun e=>by rw[e,j]at h1;cases h1
  rw[A3 _ hq,A3 _ p];exact h1
 ·cases e;refine⟨?_,i⟩;cases g:Cs d with
  |none=>rfl
  |some o'=>have:=hk d o' i g;rw[j]at this;cases this
theorem AH.more{sz:Nat}{Cs:Heap}{bx:Nat}{ac:D→List D}{es:List (List D)}{n:Nat}{ob:Option Nat}{Hp:Heap}(h:AH sz Cs bx ac es n ob Hp){b:Nat}(hb:Hp b=none)(o:Av.Obj):AH sz Cs bx ac es n ob (Hp.set b o):=by
 obtain⟨g,j,i,m⟩:=h.at7 hb o;refine⟨g,i,fun q o' hq d=>?_,h.fresh⟩;have h1:=h.keep q o' hq d;have:q≠b:=fun e=>by rw[e,hb]at h1;cases h1
 rw[A3 _ this];exact h1
theorem AH.le{sz:Nat}{Cs H:Heap}{bx:Nat}{ac:D→List D}{es:List (List D)}{n:Nat}{ob:Option Nat}{Hp:Heap}(h:AH sz Cs bx ac es n ob Hp)(d:H.Le Cs)(hx:H bx=none):H.Le (L5 Hp ob):=fun k o hk=>by
 have g:k≠bx:=fun e=>by rw[e,hx]at hk;cases hk
 have h1:=h.keep k o g (d _ _ hk);cases ob with
 |none=>exact h1
 |some c=>
  have:k≠c:=fun e=>by have:=(h.fresh c rfl).1;rw[←e,d _ _ hk]at this;cases this
  show Heap.del _ c k=_;rw[F1 this];exact h1
theorem AH.le2{sz:Nat}{Cs H:Heap}{bx g:Nat}{ac:D→List D}{es:List (List D)}{n:Nat}{ob:Option Nat}{Hp:Heap}(h:AH sz Cs bx ac es n ob Hp)(d:H.Le Cs)(hx:H bx=none)(m:H g=none)(o:Av.Obj):H.Le (L5 (Hp.set g o) ob):=fun k q hk=>by
 have i:k≠g:=fun e=>by rw[e,m]at hk;cases hk
 have h1:=h.le d hx _ _ hk;cases ob with
 |none=>show (Hp.set g o) k=_;rw[A3 _ i];exact h1
 |some c=>
  have j:k≠c:=fun e=>by have:=(h.fresh c rfl).1;rw[←e,d _ _ hk]at this;cases this
  have h1:Heap.del Hp c k=some q:=h1;rw[F1 j]at h1;show Heap.del _ c k=_;rw[F1 j,A3 _ i];exact h1
theorem AH.out2{sz:Nat}{Cs:Heap}{bx d:Nat}{ac:D→List D}{es:List (List D)}{n:Nat}{ob:Option Nat}{Hp:Heap}(h:AH sz Cs bx ac es n ob Hp){g:Av.Obj}(i:Cs d=some g)(o:Av.Obj):OutAt (Hp.set d o) sz es ob:=by
 cases ob with
 |none=>exact h.out
 |some c=>
  have:c≠d:=fun e=>by have:=(h.fresh c rfl).1;rw[e,i]at this;cases this
  show (Hp.set d o) c=_;rw[A3 _ this];exact h.out
theorem A6G{H:Heap}{sz:Nat}{es:List (List D)}{ob:Option Nat}(h:OutAt H sz es ob){x:Nat}(hx:H x=none)(o:Av.Obj):OutAt (H.set x o) sz es ob∧ob≠some x:=by
 cases ob with
 |none=>exact⟨h,by simp⟩
 |some c=>
  have hc:H c=some _:=h;have:c≠x:=fun e=>by rw[e,hx]at hc;cases hc
  refine⟨?_,fun e=>this (by injection e)⟩;show (H.set x o) c=_;rw[A3 _ this];exact hc
theorem B4Q{H:Heap}{b:Nat}{o:Av.Obj}(h:H b=some o):H.set b o=H:=by
 funext k
 unfold Av.Heap.set;by_cases e:k=b
 ·subst e;rw[if_pos rfl,h]
 ·rw[if_neg e]
theorem C4f{Q:D→Heap→Prop}{H:Heap}{n:Nat}{ob:Option Nat}{l:LinV}(hn:n=l.t.length)(ho:OutAt H 2 (Rw P2 l.t) ob)(h:Fin Q (.agg (E4 l)) (L5 H ob)):Fin Q (.agg [J8 2 n ob,.int .i64 l.k,.bool l.e]) H:=by
 have j: ∀(i:Nat) d d',[D.int .i64 l.k,.bool l.e][i]? =some d→[D.int .i64 l.k,.bool l.e][i]? =some d'→d=d':=fun i d d' h1 g=>by rw[h1]at g;injection g
 cases ob with
 |none=>
  have m:Rw P2 l.t= []:=ho;rw[B2g,m]at h;refine D4 (d':=.agg [.sl 2 [],.int .i64 l.k,.bool l.e]) (.agg _ _ rfl fun i d d' h1 g=>?_) h
  match i with
  |0=>cases h1;cases g;exact .nil 2
  |i+1=>
   simp only[D15]at h1 g;rw[j i d d' h1 g];exact .same _
 |some b=>
  have hb:H b=some (.vec 2 (Rw P2 l.t)):=ho;subst hn;refine V7 (cs':=E4 l) hb rfl (fun i d d' h1 g=>?_) h
  match i with
  |0=>
   cases h1;cases g;show Fz b 2 (Rw P2 l.t) (.vec b 2 0 l.t.length) _;have:=Fz.all (b:=b) (sz:=2) (es:=Rw P2 l.t);rwa [D6]at this
  |i+1=>
   simp only[B2g,D15]at h1 g;rw[j i d d' h1 g];exact .same _
theorem B8Q(f:Fm):(B9 f).set 2 (.sl 2 (Rw P2 f.l.t))=B9 f:=by rw[O7];rfl
theorem B8R(f:Fm)(x:D):(B9 f).set 6 x= [.int .i64 f.op,.int .i64 f.n,.sl 2 (Rw P2 f.l.t),.int .i64 f.l.k,.bool f.l.e,.str f.s,x]:=by rw[O7];rfl
abbrev ac6(f:Fm)(x:D):List D:=[.int .i64 f.op,.int .i64 f.n,.sl 2 (Rw P2 f.l.t),.int .i64 f.l.k,.bool f.l.e,.str f.s,x]
theorem C4g{Q:D→Heap→Prop}{H:Heap}{n:Nat}{ob:Option Nat}{f:Fm}{ks:List Fm}(hn:n=ks.length)(ho:OutAt H 7 (Rw B9 ks) ob)(h:Fin Q (.agg (B9 (.mk f.op f.n f.l f.s ks))) (L5 H ob)):Fin Q (.agg (ac6 f (J8 7 n ob))) H:=by
 rw[u0]at h;cases ob with
 |none=>
  have d:Rw B9 ks= []:=ho;refine D4 ?_ h;rw[d];exact B27 (.same _) (.nil 7)
 |some b=>
  have hb:H b=some (.vec 7 (Rw B9 ks)):=ho;subst hn;refine V7 (cs':=ac6 f (.sl 7 (Rw B9 ks))) hb rfl (fz7 (.same _) ?_) h;show Fz b 7 (Rw B9 ks) (.vec b 7 0 ks.length) _;have:=Fz.all (b:=b) (sz:=7) (es:=Rw B9 ks);rwa [D6]at this
end Go.Fo
namespace Go.Proofs.YtibphjonmikciaaGreatDoor
open Go Go.Av Go.Lexs Go.Lin Go.Fo
attribute [local irreducible] ACalls Q4
noncomputable def C2b:Array Oper:=match Tryz.f91.body with|some (.seq _ (.seq (.seq (.region _ ops _) _) _))=>ops|_=> #[]
theorem B8S{Q}(l:List LTm)(hc:l≠[])(hl:l.length≤5864062014639)(H:Heap)(h:Q (.sl 2 (Rw P2 l)) H):D8 91 [.sl 2 (Rw P2 l)] H Q:=by
 have i:Rw P2 l≠[]:=fun e=>hc (D1x (by rw[←D6 (f:=P2),e];rfl));refine A8 [] A5 Tryz.func91 rfl ?_;simp only[go_sem,seval,Tryz.results91];have hq: ∀(x:Nat),L4 Tryz.prog .eql 23 (L3 (.tmp x)||L3 (.const (.slice none 0 0))) (.sl 2 (Rw P2 l)) .nilsl=some (.bool false):=fun x=>A6p i (by kernel_rfl);repeat' (first|with_reducible apply D1Z|simp only[go_sem,seval,hq]|intro d|omega)
 rename_i o m j;have g:=d;clear d;rw[E6 m]at g⊢;exact Fin.out (ob:=some j) (es:=Rw P2 l) (by rw[D6]) (A0 _ _) (D21 (by show H.Le ((H.set j _).del j);rw[E6 g];exact D20 _) h)
theorem B8T{Q}(l:List LTm)(hl:l.length≤5864062014639)(H:Heap)(h:Q (.sl 2 (Rw P2 l)) H):D8 91 [.sl 2 (Rw P2 l)] H Q:=by
 by_cases hc:l= []
 ·subst hc;obtain⟨o1,o2,ho,a1,a2,a3,i,j,m⟩: ∃o1 o2,C2b.toList= [o1,o2]∧o1.dst=some 3∧o1.op= .move (.tmp 0)∧o1.guard=none∧o2.dst=some 4∧o2.op= .binOp .eql 23 (.tmp 3) (.const (.slice none 0 0)) 23∧o2.guard=none:=by
   refine⟨_,_,rfl,?_⟩;exact⟨rfl,rfl,rfl,rfl,rfl,rfl⟩
  refine A9o (ops:=C2b) [] (sz:=2) A5 Tryz.func91 rfl (by kernel_rfl) (D1a (by kernel_rfl)) ho a1 a2 a3 i j m (D1a (by kernel_rfl)) (D1a (by kernel_rfl)) (e:=114) (by kernel_rfl) (by kernel_rfl) (by kernel_rfl) (by kernel_rfl) ?_;simp only[go_sem,seval,Tryz.results91];refine⟨rfl,fun b=>⟨fun _=>D4 (.nil 2) (D22 h),fun _ p o g d=>?_⟩⟩;rw[E6 o]at d⊢;exact Fin.out (ob:=some g) (n:=0) (es:=Rw P2 []) rfl (A0 _ _) (D21 (by show H.Le ((H.set g _).del g);rw[E6 d];exact D20 _) h)
 ·exact B8S l hc hl H h
theorem C0r(n:Nat): ∀{Q} (f:Fm) (hn:SizeOf.sizeOf f≤n) (U:FmFit f) (H:Heap) (h:Q (.agg (B9 f)) H),D8 49 [.agg (B9 f)] H Q:=by
 induction n with
 |zero=>intro Q f hn;cases f;simp at hn
 |succ n ih=>
 intro Q f hn U H h;refine A8 [(7,.par)] A5 Tryz.func49 rfl ?_;simp only[go_sem,seval,Tryz.results49];have b3:=U.kl;intro d W u V;simp only[A6]at V;obtain⟨Z,hZ⟩: ∃Z:List D,Z= [.int .i64 0,.int .i64 0,.nilsl,.int .i64 0,.bool false,.str ⟨#[]⟩,.nilsl]:=⟨_,rfl⟩
 rw[←hZ];have z:d≠u:=fun e=>V.1 e.symm;have e1:((H.set d (.box (B9 f))).set u (.box Z)) d=some (.box (B9 f)):=by rw[A3 _ z,A0]
 have e2:((H.set d (.box (B9 f))).set u (.box Z)) u=some (.box Z):=A0 _ _;have I:H.Le ((H.set d (.box (B9 f))).set u (.box Z)):=(A2 W).trans (A2 (by simp only[A6];exact V));generalize (H.set d (.box (B9 f))).set u (.box Z)=Bs at e1 e2 I⊢;have s1:Bs.set d (.box (B9 f))=Bs:=B4Q e1;repeat' (first|simp only[go_sem,seval,e1,B8Q,s1,B8R]|with_reducible refine B8T f.l.t U.lin.len _ ?_)
 obtain⟨Cs,j⟩: ∃Cs,Cs=Bs.set d (.box (ac6 f .nilsl)):=⟨_,rfl⟩
 have c1:Cs d=some (.box (ac6 f .nilsl)):=by rw[j,A0]
 have c2:Cs u=some (.box Z):=by rw[j,A3 _ z.symm];exact e2
 have J:H.Le Cs:=fun k o hk=>by
  have:k≠d:=fun e=>by rw[e,W]at hk;cases hk
  rw[j,A3 _ this];exact I _ _ hk
 rw[←j];refine C2 [1,2,15,16] (fun(p:Nat×Option Nat×Heap)=>[(17,.int .i64 p.1)]) (fun(p:Nat×Option Nat×Heap)=>p.2.2) (fun(p:Nat×Option Nat×Heap)=>p.1≤f.ks.length∧AH 7 Cs d (ac6 f) (Rw B9 (f.ks.take p.1)) p.1 p.2.1 p.2.2) (fun(p:Nat×Option Nat×Heap)=>f.ks.length-p.1) ((0,none,Cs)) (⟨D1u _,A1P c1⟩) (by simp only[go_sem,seval]) (D20 _) ?_;rintro Ec rfl ⟨i,ob,Hp⟩ ⟨hi,A⟩;simp only at hi A;by_cases q:i<f.ks.length
 ·have C:decide ((i:Int)<f.ks.length)=true:=D1b (by omega);have X:(i:Int)<f.ks.length:=by omega
  have hm:=D1n q;repeat' (first|with_reducible apply D1Z|simp only[go_sem,seval,C,X,A9 _ _ q,C0 _ _ q]|(intro g;try simp only[A6]at g)|omega)
  rename_i y;have h7:=g;clear g;obtain⟨d1,d7,dO,dN⟩:=A.at7 h7 (.box (B9 f.ks[i]));refine F7 (fun i'=>.agg (B9 f.ks[i])) [d,y] ?_;have m1:d∈[d,y]:=by simp
  have m7:y∈[d,y]:=by simp
  repeat' (first|simp only[go_sem,seval,d1,d7,m1,m7]|(intro g;try simp only[A6]at g)|with_reducible refine S6 (fun H' Q hro hq=>ih f.ks[i] (by have:=S3 hm;omega) (U.kid hm) H' hq) ?_)
  rename_i x;have hx:=g;clear g;obtain⟨L,Y⟩:=hx;have r:(Hp.set y (.box (B9 f.ks[i]))) x=none:=by rw[A3 _ L];exact Y
  obtain⟨G,M⟩:=A6G dO r (.vec 7 [B9 f.ks[i]]);have a0:x∉[d,y]:=by
   simp only[D11,D12,or_false,not_or];exact⟨fun e=>(by rw[e,d1]at r;cases r),L⟩
  have a4: ∀c,ob=some c→c∉[d,y]:=fun c e=>by
   simp only[D11,D12,or_false,not_or];exact⟨(A.fresh c e).2,dN c e⟩
  refine A8S 28 96 (n:=i) (m:=1) (bx:=x) (ob:=ob) (es:=Rw B9 (f.ks.take i)) (xs:=[B9 f.ks[i]]) (by simp only[go_sem,seval]) (by decide) (by simp only[go_sem,seval]) (by simp only[go_sem,seval]) (by simp only[go_sem,seval]) (by simp only[go_sem,seval]) (A0 _ _) rfl (by simp) G (R2 _ _ (by omega)).symm a0 M a4 (by simp only[D1e,D1g];omega) (by simp only[D1e,D1g];omega) fun b' O=>?_;rw[E6 r]at O⊢;obtain⟨b0,a5,A'⟩:=A.step h7 _ O (B9 f.ks[i]);revert A';generalize a6:((L5 (Hp.set y (.box (B9 f.ks[i]))) ob).set b' (.vec 7 (Rw B9 (f.ks.take i)++[B9 f.ks[i]]))).set d (.box (ac6 f (.vec b' 7 0 (i+1))))=Hf;intro A';repeat' (first|simp only[go_sem,seval,a5,m1]|simp(disch:=omega) only[A4,A9,C3])
  exact C1 (i+1,some b',Hf) ⟨by simp only[];omega,by simp only[];rw[S2 f.ks i q];exact A'⟩ (by simp only[];omega) (by(try simp only[go_sem,seval])<;>(try simp(disch:=omega) [A4])) (by rw[←a6];exact D20 _)
 ·have C:decide ((i:Int)<f.ks.length)=false:=D1c (by omega);have a9:i=f.ks.length:=by omega
  have T:=A.keep u _ z.symm c2;rw[D1o (by omega)]at A;have A1:=A.box;rw[hZ]at T;have o1:=A45 7 i ob;repeat' simp only[go_sem,seval,C,A1,T,o1]
  exact C4g a9 (A.out2 c2 _) (D21 (A.le2 J W V.2 _) (by rw[←C5D];exact h))
theorem B4R{Q}(f:Fm)(d:FmFit f)(H:Heap)(h:Q (.agg (B9 f)) H):D8 49 [.agg (B9 f)] H Q:=C0r _ f (D1t _) d H h
end Go.Proofs.YtibphjonmikciaaGreatDoor
namespace Go.Fo
open Go Go.Av Go.Lexs Go.Lin
theorem B8U(l:LinV)(d:Int)(i:Nat)(h:i<l.t.length):Rw P2 ((shL l d).t.take (i+1))=Rw P2 ((shL l d).t.take i)++[[.str l.t[i].v,.int .i64 (d*l.t[i].c)]]:=by
 rw[S2 _ i (by unfold shL;simpa using h)]
 congr 2
 unfold shL;simp
theorem B3G{Q:D→Heap→Prop}{H Bs:Heap}{d x n:Nat}{o:Int}{es:List (List D)}(ks:List Fm)(i:es=Rw B9 ks)(hn:n=ks.length)(g:H.Le Bs)(p:H d=none){z:Av.Obj}(r:Bs d=some z)(hx:Bs x=none)(y:Av.Obj)(h:Q (.agg (B9 (.mk o 0 nilL D3 ks))) H):
  Fin Q (.agg [.int .i64 o,.int .i64 0,.nilsl,.int .i64 0,.bool false,.str ⟨#[]⟩,.vec x 7 0 n]) ((Bs.set x (.vec 7 es)).set d y):=by
 subst i;have j:x≠d:=fun e=>by rw[e,r]at hx;cases hx
 refine A9i (ob:=some x) (ks:=ks) hn (show (Heap.set _ d y) x=_ by rw[A3 _ j,A0]) (D21 (fun k q hk=>?_) h);have m:k≠x:=fun e=>by rw[←e,g _ _ hk]at hx;cases hx
 have u:k≠d:=fun e=>by rw[e,p]at hk;cases hk
 show Heap.del _ x k=_;rw[F1 m,A3 _ u,A3 _ m];exact g _ _ hk
theorem B8V: ∀(f:Fm),G8 D5 f=true→J5 f≤13*F4 f:=by
 intro f
 induction f using R4 with
 |h o n l s ks j=>
  intro d;have hk: ∀k∈ks,G8 D5 k=true:=fun k hk=>N9 (f:=.mk o n l s ks) d hk;have i:=B4M (f:=.mk o n l s ks) (by rw[A1k,D1m]at d;exact d.1);have i:l.t.length≤12:=i;rw[J5,F4];have key: ∀m:List Fm,(∀k∈m,k∈ks)→J5.wtL m≤13*F4.nodesL m:=by
   intro m
   induction m with
   |nil=>intro _;simp[J5.wtL,F4.nodesL]
   |cons g p e=>
    intro hm;have q:=j g (hm g (D1k ..)) (hk g (hm g (D1k ..)));have r:=e fun k h=>hm k (D1r _ h);rw[J5.wtL,F4.nodesL];omega
  have:=key ks fun _ h=>h;omega
theorem A7K{f:Fm}(h:E3 f=true):J5 f≤2600:=by
 have h1:=B8V f (M5 h);rw[A1H]at h;simp only[D1m,D1v]at h;omega
end Go.Fo
namespace Go.Proofs.YtibphjonmikciaaGreatDoor
open Go Go.Av Go.Lexs Go.Lin Go.Fo
attribute [local irreducible] ACalls Q4
theorem A49{Q}(l:LinV)(hv:validL l=true)(g:Int)(hs:g=1∨g= -1)(H:Heap)(h:Q (.agg (E4 (shL l g))) H):D8 92 [.agg (E4 l),.int .i64 g] H Q:=by
 refine A8 [] A5 Tryz.func92 rfl ?_;simp only[go_sem,seval,Tryz.results92];have ok:=K7 hv;have b1:=ok.len;have b3:=ok.k;obtain⟨j,C⟩: ∃j,j=g*l.k:=⟨_,rfl⟩
 have b6:j.natAbs≤1099511627776:=by rcases hs with rfl|rfl<;>omega
 have L:(shL l g).k=j-1:=by rw[C];rfl
 intro q g2 m J;simp only[A6]at J;have M:q≠m:=fun e=>J.1 e.symm;obtain⟨Z,hZ⟩: ∃Z:List D,Z= [.nilsl,.int .i64 0,.bool false]:=⟨_,rfl⟩
 rw[←hZ];have e2:((H.set q (.box (E4 l))).set m (.box Z)) q=some (.box (E4 l)):=by rw[A3 _ M,A0]
 have O:((H.set q (.box (E4 l))).set m (.box Z)) m=some (.box Z):=A0 _ _;have u:H.Le ((H.set q (.box (E4 l))).set m (.box Z)):=(A2 g2).trans (A2 (by simp only[A6];exact J));generalize (H.set q (.box (E4 l))).set m (.box Z)=Bs at e2 O u⊢;repeat' (first|simp only[go_sem,seval,e2,←C]|simp(disch:=omega) only[A4,A9,C3]|simp(disch:=first|omega|grind) only[B3]|(intro d;try simp only[A6]at d))
 rename_i b5;have h5:=d;clear d;have n5:q≠b5∧m≠b5:=⟨fun e=>(by rw[←e,e2]at h5;cases h5),fun e=>(by rw[←e,O]at h5;cases h5)⟩
 have c5:(Bs.set b5 (.box [.nilsl,.int .i64 (j-1),.bool false])) b5=some (.box [.nilsl,.int .i64 (j-1),.bool false]):=A0 _ _;have c2:(Bs.set b5 (.box [.nilsl,.int .i64 (j-1),.bool false])) q=some (.box (E4 l)):=by rw[A3 _ n5.1];exact e2
 have T:(Bs.set b5 (.box [.nilsl,.int .i64 (j-1),.bool false])) m=some (.box Z):=by rw[A3 _ n5.2];exact O
 have U:H b5=none:=u.none h5;have r:H.Le (Bs.set b5 (.box [.nilsl,.int .i64 (j-1),.bool false])):=u.trans (A2 h5);generalize Bs.set b5 (.box [.nilsl,.int .i64 (j-1),.bool false])=Cs at c5 c2 T r⊢;repeat' (first|with_reducible apply D1Z|simp only[go_sem,seval,c2]|simp(disch:=omega) only[A4,A9,C3]|simp(disch:=first|omega|grind) only[B3]|(intro d;try simp only[A6]at d)|omega)
 refine C2 [1,4,5,15,16] (fun(p:Nat×Option Nat×Heap)=>[(17,.int .i64 p.1)]) (fun(p:Nat×Option Nat×Heap)=>p.2.2) (fun(p:Nat×Option Nat×Heap)=>p.1≤l.t.length∧AH 2 Cs b5 (fun x=>[x,.int .i64 (j-1),.bool false]) (Rw P2 ((shL l g).t.take p.1)) p.1 p.2.1 p.2.2) (fun(p:Nat×Option Nat×Heap)=>l.t.length-p.1) ((0,none,Cs)) (⟨D1u _,A1P c5⟩) (by simp only[go_sem,seval]) (D20 _) ?_;rintro Ec rfl ⟨i,ob,Hp⟩ ⟨hi,A⟩;simp only at hi A;have V:(shL l g).t.length=l.t.length:=by unfold shL;simp
 by_cases o:i<l.t.length
 ·have y:decide ((i:Int)<l.t.length)=true:=D1b (by omega);have W:(i:Int)<l.t.length:=by omega
  obtain⟨z,hz⟩: ∃z,z=g*l.t[i].c:=⟨_,rfl⟩
  have b8:z.natAbs≤1048576:=by
   have:=(N0 ok.t _ (D1n o)).2.2;rcases hs with rfl|rfl<;>omega
  repeat' (first|with_reducible apply D1Z|simp only[go_sem,seval,y,W,A9 _ _ o,C0 _ _ o]|(intro d;try simp only[A6]at d)|omega)
  rename_i b7;have h7:=d;clear d;obtain⟨d1,d7,dO,dN⟩:=A.at7 h7 (.box [.str l.t[i].v,.int .i64 l.t[i].c]);repeat' (first|simp only[go_sem,seval,d1,d7,←hz]|simp(disch:=omega) only[A4,A9,C3]|(intro d;try simp only[A6]at d))
  rename_i x;have hx:=d;clear d;obtain⟨X,Y⟩:=hx;have G:(Hp.set b7 (.box [.str l.t[i].v,.int .i64 l.t[i].c])) x=none:=by rw[A3 _ X];exact Y
  have A7:=A.more h7 (.box [.str l.t[i].v,.int .i64 l.t[i].c]);obtain⟨_,_,a0,_⟩:=A7.at7 G (.vec 2 [[.str l.t[i].v,.int .i64 z]]);refine A55 (Rw P2 ((shL l g).t.take i)) (by simp) (by rw[R2 _ _ (by omega)]) a0 (by simp only[D1e,D1g];omega) (by simp only[D1e,D1g];omega) fun b' a4=>?_;obtain⟨b0,a5,A'⟩:=A7.step G _ a4 [.str l.t[i].v,.int .i64 z];revert A';generalize a6:((L5 ((Hp.set b7 (.box [.str l.t[i].v,.int .i64 l.t[i].c])).set x (.vec 2 [[.str l.t[i].v,.int .i64 z]])) ob).set b' (.vec 2 (Rw P2 ((shL l g).t.take i)++[[.str l.t[i].v,.int .i64 z]]))).set b5 (.box [.vec b' 2 0 (i+1),.int .i64 (j-1),.bool false])=Hf;intro A';repeat' (first|simp only[go_sem,seval,a5]|simp(disch:=omega) only[A4,A9,C3])
  exact C1 (i+1,some b',Hf) ⟨by simp only[];omega,by simp only[];rw[B8U l g i o,←hz];exact A'⟩ (by simp only[];omega) (by(try simp only[go_sem,seval])<;>(try simp(disch:=omega) [A4])) (by rw[←a6];exact D20 _)
 ·have y:decide ((i:Int)<l.t.length)=false:=D1c (by omega);have a9:i=l.t.length:=by omega
  have I:=A.keep m _ n5.2 T;rw[D1o (by omega)]at A;have A1:=A.box;rw[hZ]at I;have o1:=A45 2 i ob;repeat' simp only[go_sem,seval,y,A1,I,o1]
  rw[←L];refine C4f (l:=shL l g) (by rw[V];exact a9) (A.out2 T _) (D21 (A.le2 r U J.2 _) h)
theorem A5A{Q}(l:LinV)(H:Heap)(h:Q (.agg (B9 (A24 l))) H):D8 78 [.agg (E4 l)] H Q:=by
 refine A8 [] A5 Tryz.func78 rfl ?_;simp only[go_sem,seval,Tryz.results78];repeat' (first|simp only[go_sem,seval]|simp(disch:=first|omega|grind) only[B3]|(intro d;try simp only[A6]at d))
 rename_i j h1 m;have p:=d;clear d;refine D4 (B29 2 0 l D3) (D21 (fun k o hk=>?_) h);have g:k≠j:=fun e=>by rw[e,h1]at hk;cases hk
 have i:k≠m:=fun e=>by rw[e,p.2]at hk;cases hk
 first|(rw[A3 _ i,A3 _ g];exact hk)|(rw[A3 _ i,A3 _ i,A3 _ g];exact hk)|(rw[A3 _ g];exact hk)
theorem B8W(n:Nat): ∀{Q} (f:Fm) (hn:SizeOf.sizeOf f≤n) (hf:G8 D5 f=true) (fa:FmFit f) (b:Bool) (H:Heap) (h:Q (.agg (B9 (normF f b))) H),D8 50 [.agg (B9 f),.bool b] H Q:=by
 induction n with
 |zero=>intro Q f hn;cases f;simp at hn
 |succ n ih=>
 intro Q f hn hf fa b H h;refine A8 [(10,.par),(21,.wk),(24,.par)] A5 Tryz.func50 rfl ?_;simp only[go_sem,seval,Tryz.results50];have a5:=fa.kl;intro q g2 r g4;simp only[A6]at g4;have c7:q≠r:=fun e=>g4.1 e.symm;obtain⟨Z,U⟩: ∃Z:List D,Z= [.int .i64 0,.int .i64 0,.nilsl,.int .i64 0,.bool false,.str ⟨#[]⟩,.nilsl]:=⟨_,rfl⟩
 rw[←U];have e2:((H.set q (.box (B9 f))).set r (.box Z)) q=some (.box (B9 f)):=by rw[A3 _ c7,A0]
 have j:((H.set q (.box (B9 f))).set r (.box Z)) r=some (.box Z):=A0 _ _;have g:H.Le ((H.set q (.box (B9 f))).set r (.box Z)):=(A2 g2).trans (A2 (by simp only[A6];exact g4));have z: ∀x,H.Le (((H.set q (.box (B9 f))).set r (.box Z)).set r x):=fun x=>F3 g g4.2;have O: ∀x y,H.Le ((((H.set q (.box (B9 f))).set r (.box Z)).set q x).set r y):=fun x y=>F3 (F3 g g2) g4.2;generalize (H.set q (.box (B9 f))).set r (.box Z)=Bs at e2 j g z O⊢;cases V4 hf with
 |con m hm=>
  rw[C2W b rfl]at h;simp only[Fm.n,Fm.l,Fm.s,Fm.ks,u0]at h;rw[U]at j;have q4: ∀x,(Bs.set q x) r=some (.box Z):=fun x=>by rw[A3 _ c7.symm];rw[U];exact j
  rw[U]at q4;rcases hm with rfl|rfl<;>cases b
  all_goals
   repeat' (first|simp only[go_sem,seval,e2,j,q4]|simp(disch:=omega) only[A4,A9,C3])
   first
    |exact D21 (z _) (by simpa using h)
    |exact D21 (O _ _) (by simpa using h)
 |lin l hl hp=>
  rw[C2X b rfl]at h;cases b with
  |false=>
   simp only[D1p,if_false,u0]at h;rw[U]at j;repeat' simp only[go_sem,seval,e2,j]
   exact D21 (z _) h
  |true=>
   simp only[if_true,Fm.l]at h;unfold opL at h;have d0:=j;rw[U]at j;cases he:l.e with
   |true=>
    rw[if_pos he]at h;repeat' simp only[go_sem,seval,e2,he]
    have m2:q∈[q]:=by simp
    refine F7 (fun i=>if i=2 then .agg (E4 (shL l 1))else if i=3 then .agg (B9 (A24 (shL l 1)))else if i=6 then .agg (E4 (shL l (-1)))else if i=7 then .agg (B9 (A24 (shL l (-1))))else .undef) [q] ?_;repeat' (first|simp only[go_sem,seval,e2,j,m2]|simp(disch:=first|omega|grind) only[B3]|(intro d;try simp only[A6]at d)|with_reducible refine S6 (fun H' Q hro hq=>A49 l hl 1 (.inl rfl) H' hq) ?_|with_reducible refine S6 (fun H' Q hro hq=>A49 l hl (-1) (.inr rfl) H' hq) ?_|with_reducible refine S6 (fun H' Q hro hq=>A5A (shL l 1) H' hq) ?_|with_reducible refine S6 (fun H' Q hro hq=>A5A (shL l (-1)) H' hq) ?_)
    exact B3G [A24 (shL l 1),A24 (shL l (-1))] rfl rfl g g4.2 j (by assumption) _ h
   |false=>
    rw[if_neg (by rw[he];decide)]at h;have sc:=fun(Q:D→Heap→Prop) (H:Heap)=>A49 (Q:=Q) l hl (-1) (.inr rfl) H;rw[show E4 l= [.sl 2 (Rw P2 l.t),.int .i64 l.k,.bool false]by rw[B2g,he]]at sc;repeat' (first|simp only[go_sem,seval,e2,j,he]|with_reducible refine sc _ _ ?_|with_reducible refine A5A _ _ ?_)
    exact D21 (z _) h
 |var s hp=>
  rw[C2Y b rfl]at h;cases b with
  |false=>
   simp only[D1p,if_false,u0]at h;rw[U]at j;repeat' simp only[go_sem,seval,e2,j]
   exact D21 (z _) h
  |true=>
   simp only[if_true]at h;rw[U]at j;repeat' (first|simp only[go_sem,seval,e2,j]|simp(disch:=first|omega|grind) only[B3]|(intro d;try simp only[A6]at d))
   exact B3G [.mk 3 0 nilL s []] (by simp[Rw,u0]) rfl g g4.2 j (by assumption) _ h
 |not k=>
  rw[C2Z b rfl rfl]at h;rw[U]at j;have r0:(Rw B9 [k]).getD 0 []=B9 k:=rfl;have hsz:SizeOf.sizeOf k<SizeOf.sizeOf (Fm.mk 4 0 nilL D3 [k]):=S3 (f:=.mk 4 0 nilL D3 [k]) (D1k ..);repeat' (first|simp only[go_sem,seval,e2,j,r0]|with_reducible refine ih k (by omega) (N9 hf (D1k ..)) (fa.kid (D1k ..)) (!b) _ ?_)
  all_goals first
   |exact D21 (z _) h
   |decide
   |omega
 |and ks=>
  have a6: ∀k∈ks,G8 D5 k=true:=fun k hk=>N9 (f:=.mk 5 0 nilL D3 ks) hf hk;have a9: ∀k∈ks,FmFit k:=fun k hk=>fa.kid hk;have a5:ks.length≤1466015503658:=a5;rw[B7Z b (by simp[Fm.op]) (by simp[Fm.op]) (by simp[Fm.op]) (by simp[Fm.op])]at h;simp only[Fm.op,Fm.ks]at h;apply A3a (C:=fun b5 G=>H.Le G∧H b5=none∧r≠b5∧q≠b5∧G q=some (.box (B9 (.mk 5 0 nilL D3 ks)))∧G r=some (.box Z)∧G b5=some (.box [.int .i64 (opO 5 b),.int .i64 0,.nilsl,.int .i64 0,.bool false,.str ⟨#[]⟩,.nilsl]))
  ·intro hJ;by_cases hb:b=true
   rotate_left
   ·have hb:b=false:=by simpa using hb
    repeat' (first|simp only[go_sem,seval,e2,hb]|(intro d;try simp only[A6]at d))
    rename_i b5;have h5:=d;clear d;have T:q≠b5:=fun e=>by rw[←e,e2]at h5;cases h5
    have V:r≠b5:=fun e=>by rw[←e,j]at h5;cases h5
    exact F2 [(1,.bool b),(2,.box q 0),(4,.box r 0),(5,.box b5 0)] _ (by simp only[go_sem,seval,hb]) (D20 _) (hJ b5 _ ⟨g.trans (A2 h5),g.none h5,V,T,by rw[A3 _ T];exact e2,by rw[A3 _ V];exact j,by rw[A0,hb];rfl⟩)
   ·repeat' (first|simp only[go_sem,seval,e2,hb]|simp(disch:=omega) only[A4,A9,C3]|simp(disch:=first|omega|grind) only[B3]|(intro d;try simp only[A6]at d))
    rename_i b5;have h5:=d;clear d;have T:q≠b5:=fun e=>by rw[←e,e2]at h5;cases h5
    have V:r≠b5:=fun e=>by rw[←e,j]at h5;cases h5
    have q2: ∀x,(Bs.set b5 x) q=some (.box (B9 (.mk 5 0 nilL D3 ks))):=fun x=>by rw[A3 _ T];exact e2
    repeat' (first|with_reducible apply D1Z|simp only[go_sem,seval,q2,hb]|simp(disch:=omega) only[A4,A9,C3]|simp(disch:=first|omega|grind) only[B3]|(intro d;try simp only[A6]at d)|omega)
    refine F2 [(1,.bool b),(2,.box q 0),(4,.box r 0),(5,.box b5 0)] _ (by simp only[go_sem,seval,hb]) (D20 _) (hJ b5 _ ⟨fun k o hk=>?_,g.none h5,V,T,?_,?_,?_⟩)
    ·have:k≠b5:=fun e=>by rw[e,g.none h5]at hk;cases hk
     rw[A3 _ this];exact g _ _ hk
    ·rw[A3 _ T];exact e2
    ·rw[A3 _ V];exact j
    ·rw[A0,hb];rfl
  rintro b5 Cs ⟨W,b0,b1,c9,b3,b6,e5⟩;clear e2 j z O g;have e2:=b3;have j:=b6;obtain⟨oo,b8⟩: ∃oo,oo=opO 5 b:=⟨_,rfl⟩
  rw[←b8]at e5 h;repeat' simp only[go_sem,seval,e2]
  refine C2 [1,4,5,67,68] (fun(p:Nat×Option Nat×Heap)=>[(69,.int .i64 p.1)]) (fun(p:Nat×Option Nat×Heap)=>p.2.2) (fun(p:Nat×Option Nat×Heap)=>p.1≤ks.length∧AH 7 Cs b5 (fun x=>[.int .i64 oo,.int .i64 0,.nilsl,.int .i64 0,.bool false,.str ⟨#[]⟩,x]) (Rw B9 ((ks.map (normF · b)).take p.1)) p.1 p.2.1 p.2.2) (fun(p:Nat×Option Nat×Heap)=>ks.length-p.1) ((0,none,Cs)) (⟨D1u _,A1P e5⟩) (by simp only[go_sem,seval]) (D20 _) ?_;rintro Ec rfl ⟨i,ob,Hp⟩ ⟨hi,A⟩;simp only at hi A;have b9:(ks.map (normF · b)).length=ks.length:=by simp
  by_cases J:i<ks.length
  ·have L:decide ((i:Int)<ks.length)=true:=D1b (by omega);have c0:(i:Int)<ks.length:=by omega
   have hm:=D1n J;have hsz:SizeOf.sizeOf ks[i]<SizeOf.sizeOf (Fm.mk 5 0 nilL D3 ks):=S3 (f:=.mk 5 0 nilL D3 ks) hm;repeat' (first|with_reducible apply D1Z|simp only[go_sem,seval,L,c0,A9 _ _ J,C0 _ _ J]|(intro d;try simp only[A6]at d)|omega)
   rename_i I;have h7:=d;clear d;obtain⟨d1,d7,dO,dN⟩:=A.at7 h7 (.box (B9 ks[i]));refine F7 (fun i'=>.agg (B9 (normF ks[i] b))) [b5,I] ?_;have m1:b5∈[b5,I]:=by simp
   have m7:I∈[b5,I]:=by simp
   repeat' (first|simp only[go_sem,seval,d1,d7,m1,m7]|(intro d;try simp only[A6]at d)|with_reducible refine S6 (fun H' Q hro hq=>ih ks[i] (by omega) (a6 _ hm) (a9 _ hm) b H' hq) ?_)
   rename_i x;have hx:=d;clear d;obtain⟨X,c1⟩:=hx;have u:(Hp.set I (.box (B9 ks[i]))) x=none:=by rw[A3 _ X];exact c1
   obtain⟨M,Y⟩:=A6G dO u (.vec 7 [B9 (normF ks[i] b)]);have c2:x∉[b5,I]:=by
    simp only[D11,D12,or_false,not_or];exact⟨fun e=>(by rw[e,d1]at u;cases u),X⟩
   have c3: ∀c,ob=some c→c∉[b5,I]:=fun c e=>by
    simp only[D11,D12,or_false,not_or];exact⟨(A.fresh c e).2,dN c e⟩
   refine A8S 28 96 (n:=i) (m:=1) (bx:=x) (ob:=ob) (es:=Rw B9 ((ks.map (normF · b)).take i)) (xs:=[B9 (normF ks[i] b)]) (by simp only[go_sem,seval]) (by decide) (by simp only[go_sem,seval]) (by simp only[go_sem,seval]) (by simp only[go_sem,seval]) (by simp only[go_sem,seval]) (A0 _ _) rfl (by simp) M (R2 _ _ (by omega)).symm c2 Y c3 (by simp only[D1e,D1g];omega) (by simp only[D1e,D1g];omega) fun b' a0=>?_;rw[E6 u]at a0⊢;obtain⟨c8,c4,A'⟩:=A.step h7 _ a0 (B9 (normF ks[i] b));revert A';generalize c5:((L5 (Hp.set I (.box (B9 ks[i]))) ob).set b' (.vec 7 (Rw B9 ((ks.map (normF · b)).take i)++[B9 (normF ks[i] b)]))).set b5 (.box [.int .i64 oo,.int .i64 0,.nilsl,.int .i64 0,.bool false,.str ⟨#[]⟩,.vec b' 7 0 (i+1)])=Hf;intro A';repeat' (first|simp only[go_sem,seval,c4,m1]|simp(disch:=omega) only[A4,A9,C3])
   exact C1 (i+1,some b',Hf) ⟨by simp only[];omega,by simp only[];rw[S2 (ks.map (normF · b)) i (by omega),D2P];exact A'⟩ (by simp only[];omega) (by(try simp only[go_sem,seval])<;>(try simp(disch:=omega) [A4])) (by rw[←c5];exact D20 _)
  ·have L:decide ((i:Int)<ks.length)=false:=D1c (by omega);have c6:i=ks.length:=by omega
   have a4:=A.keep r _ b1 j;rw[D1o (by omega)]at A;have A1:=A.box;rw[U]at a4;have o1:=A45 7 i ob;repeat' simp only[go_sem,seval,L,A1,a4,o1]
   exact A9i (ks:=ks.map (normF · b)) (by rw[b9];exact c6) (A.out2 j _) (D21 (A.le2 W b0 g4.2 _) h)
 |or ks=>
  have a6: ∀k∈ks,G8 D5 k=true:=fun k hk=>N9 (f:=.mk 6 0 nilL D3 ks) hf hk;have a9: ∀k∈ks,FmFit k:=fun k hk=>fa.kid hk;have a5:ks.length≤1466015503658:=a5;rw[B7Z b (by simp[Fm.op]) (by simp[Fm.op]) (by simp[Fm.op]) (by simp[Fm.op])]at h;simp only[Fm.op,Fm.ks]at h;apply A3a (C:=fun b5 G=>H.Le G∧H b5=none∧r≠b5∧q≠b5∧G q=some (.box (B9 (.mk 6 0 nilL D3 ks)))∧G r=some (.box Z)∧G b5=some (.box [.int .i64 (opO 6 b),.int .i64 0,.nilsl,.int .i64 0,.bool false,.str ⟨#[]⟩,.nilsl]))
  ·intro hJ;by_cases hb:b=true
   rotate_left
   ·have hb:b=false:=by simpa using hb
    repeat' (first|simp only[go_sem,seval,e2,hb]|(intro d;try simp only[A6]at d))
    rename_i b5;have h5:=d;clear d;have T:q≠b5:=fun e=>by rw[←e,e2]at h5;cases h5
    have V:r≠b5:=fun e=>by rw[←e,j]at h5;cases h5
    exact F2 [(1,.bool b),(2,.box q 0),(4,.box r 0),(5,.box b5 0)] _ (by simp only[go_sem,seval,hb]) (D20 _) (hJ b5 _ ⟨g.trans (A2 h5),g.none h5,V,T,by rw[A3 _ T];exact e2,by rw[A3 _ V];exact j,by rw[A0,hb];rfl⟩)
   ·repeat' (first|simp only[go_sem,seval,e2,hb]|simp(disch:=omega) only[A4,A9,C3]|simp(disch:=first|omega|grind) only[B3]|(intro d;try simp only[A6]at d))
    rename_i b5;have h5:=d;clear d;have T:q≠b5:=fun e=>by rw[←e,e2]at h5;cases h5
    have V:r≠b5:=fun e=>by rw[←e,j]at h5;cases h5
    have q2: ∀x,(Bs.set b5 x) q=some (.box (B9 (.mk 6 0 nilL D3 ks))):=fun x=>by rw[A3 _ T];exact e2
    repeat' (first|with_reducible apply D1Z|simp only[go_sem,seval,q2,hb]|simp(disch:=omega) only[A4,A9,C3]|simp(disch:=first|omega|grind) only[B3]|(intro d;try simp only[A6]at d)|omega)
    refine F2 [(1,.bool b),(2,.box q 0),(4,.box r 0),(5,.box b5 0)] _ (by simp only[go_sem,seval,hb]) (D20 _) (hJ b5 _ ⟨fun k o hk=>?_,g.none h5,V,T,?_,?_,?_⟩)
    ·have:k≠b5:=fun e=>by rw[e,g.none h5]at hk;cases hk
     rw[A3 _ this];exact g _ _ hk
    ·rw[A3 _ T];exact e2
    ·rw[A3 _ V];exact j
    ·rw[A0,hb];rfl
  rintro b5 Cs ⟨W,b0,b1,c9,b3,b6,e5⟩;clear e2 j z O g;have e2:=b3;have j:=b6;obtain⟨oo,b8⟩: ∃oo,oo=opO 6 b:=⟨_,rfl⟩
  rw[←b8]at e5 h;repeat' simp only[go_sem,seval,e2]
  refine C2 [1,4,5,67,68] (fun(p:Nat×Option Nat×Heap)=>[(69,.int .i64 p.1)]) (fun(p:Nat×Option Nat×Heap)=>p.2.2) (fun(p:Nat×Option Nat×Heap)=>p.1≤ks.length∧AH 7 Cs b5 (fun x=>[.int .i64 oo,.int .i64 0,.nilsl,.int .i64 0,.bool false,.str ⟨#[]⟩,x]) (Rw B9 ((ks.map (normF · b)).take p.1)) p.1 p.2.1 p.2.2) (fun(p:Nat×Option Nat×Heap)=>ks.length-p.1) ((0,none,Cs)) (⟨D1u _,A1P e5⟩) (by simp only[go_sem,seval]) (D20 _) ?_;rintro Ec rfl ⟨i,ob,Hp⟩ ⟨hi,A⟩;simp only at hi A;have b9:(ks.map (normF · b)).length=ks.length:=by simp
  by_cases J:i<ks.length
  ·have L:decide ((i:Int)<ks.length)=true:=D1b (by omega);have c0:(i:Int)<ks.length:=by omega
   have hm:=D1n J;have hsz:SizeOf.sizeOf ks[i]<SizeOf.sizeOf (Fm.mk 6 0 nilL D3 ks):=S3 (f:=.mk 6 0 nilL D3 ks) hm;repeat' (first|with_reducible apply D1Z|simp only[go_sem,seval,L,c0,A9 _ _ J,C0 _ _ J]|(intro d;try simp only[A6]at d)|omega)
   rename_i I;have h7:=d;clear d;obtain⟨d1,d7,dO,dN⟩:=A.at7 h7 (.box (B9 ks[i]));refine F7 (fun i'=>.agg (B9 (normF ks[i] b))) [b5,I] ?_;have m1:b5∈[b5,I]:=by simp
   have m7:I∈[b5,I]:=by simp
   repeat' (first|simp only[go_sem,seval,d1,d7,m1,m7]|(intro d;try simp only[A6]at d)|with_reducible refine S6 (fun H' Q hro hq=>ih ks[i] (by omega) (a6 _ hm) (a9 _ hm) b H' hq) ?_)
   rename_i x;have hx:=d;clear d;obtain⟨X,c1⟩:=hx;have u:(Hp.set I (.box (B9 ks[i]))) x=none:=by rw[A3 _ X];exact c1
   obtain⟨M,Y⟩:=A6G dO u (.vec 7 [B9 (normF ks[i] b)]);have c2:x∉[b5,I]:=by
    simp only[D11,D12,or_false,not_or];exact⟨fun e=>(by rw[e,d1]at u;cases u),X⟩
   have c3: ∀c,ob=some c→c∉[b5,I]:=fun c e=>by
    simp only[D11,D12,or_false,not_or];exact⟨(A.fresh c e).2,dN c e⟩
   refine A8S 28 96 (n:=i) (m:=1) (bx:=x) (ob:=ob) (es:=Rw B9 ((ks.map (normF · b)).take i)) (xs:=[B9 (normF ks[i] b)]) (by simp only[go_sem,seval]) (by decide) (by simp only[go_sem,seval]) (by simp only[go_sem,seval]) (by simp only[go_sem,seval]) (by simp only[go_sem,seval]) (A0 _ _) rfl (by simp) M (R2 _ _ (by omega)).symm c2 Y c3 (by simp only[D1e,D1g];omega) (by simp only[D1e,D1g];omega) fun b' a0=>?_;rw[E6 u]at a0⊢;obtain⟨c8,c4,A'⟩:=A.step h7 _ a0 (B9 (normF ks[i] b));revert A';generalize c5:((L5 (Hp.set I (.box (B9 ks[i]))) ob).set b' (.vec 7 (Rw B9 ((ks.map (normF · b)).take i)++[B9 (normF ks[i] b)]))).set b5 (.box [.int .i64 oo,.int .i64 0,.nilsl,.int .i64 0,.bool false,.str ⟨#[]⟩,.vec b' 7 0 (i+1)])=Hf;intro A';repeat' (first|simp only[go_sem,seval,c4,m1]|simp(disch:=omega) only[A4,A9,C3])
   exact C1 (i+1,some b',Hf) ⟨by simp only[];omega,by simp only[];rw[S2 (ks.map (normF · b)) i (by omega),D2P];exact A'⟩ (by simp only[];omega) (by(try simp only[go_sem,seval])<;>(try simp(disch:=omega) [A4])) (by rw[←c5];exact D20 _)
  ·have L:decide ((i:Int)<ks.length)=false:=D1c (by omega);have c6:i=ks.length:=by omega
   have a4:=A.keep r _ b1 j;rw[D1o (by omega)]at A;have A1:=A.box;rw[U]at a4;have o1:=A45 7 i ob;repeat' simp only[go_sem,seval,L,A1,a4,o1]
   exact A9i (ks:=ks.map (normF · b)) (by rw[b9];exact c6) (A.out2 j _) (D21 (A.le2 W b0 g4.2 _) h)
theorem A7L{Q}(f:Fm)(d:G8 D5 f=true)(e:FmFit f)(b:Bool)(H:Heap)(h:Q (.agg (B9 (normF f b))) H):D8 50 [.agg (B9 f),.bool b] H Q:=B8W _ f (D1t _) d e b H h
theorem A7M(n:Int):NilR (.tuple [.agg [.int .i64 0,.int .i64 0,.nilsl,.int .i64 0,.bool false,.str ⟨#[]⟩,.nilsl],.int .i64 n]) (.tuple [.agg (B9 Q5),.int .i64 n]):=B1i (A1q 0 0 0 false D3)
theorem C7z{Q}(f:Fm)(z:FmFit f)(U:VOk f)(H:Heap)(h:Q (.tuple [.agg (B9 (B7b f).1),.int .i64 (B7b f).2]) H):D8 16 [.agg (B9 f)] H Q:=by
 refine A8 [] A5 Tryz.func16 rfl ?_;simp only[go_sem,seval,Tryz.results16];intro q V i u;simp only[A6]at u;have A:q≠i:=fun e=>u.1 e.symm;have e1:((H.set q (.box (B9 f))).set i (.box [.int .i64 0,.int .i64 0,.nilsl,.int .i64 0,.bool false,.str ⟨#[]⟩,.nilsl])) q=some (.box (B9 f)):=by rw[A3 _ A,A0]
 have e2:((H.set q (.box (B9 f))).set i (.box [.int .i64 0,.int .i64 0,.nilsl,.int .i64 0,.bool false,.str ⟨#[]⟩,.nilsl])) i=some (.box [.int .i64 0,.int .i64 0,.nilsl,.int .i64 0,.bool false,.str ⟨#[]⟩,.nilsl]):=A0 _ _;have m:H.Le ((H.set q (.box (B9 f))).set i (.box [.int .i64 0,.int .i64 0,.nilsl,.int .i64 0,.bool false,.str ⟨#[]⟩,.nilsl])):=(A2 V).trans (A2 (by simp only[A6];exact u));generalize (H.set q (.box (B9 f))).set i (.box [.int .i64 0,.int .i64 0,.nilsl,.int .i64 0,.bool false,.str ⟨#[]⟩,.nilsl])=Bs at e1 e2 m⊢;have C: ∀x,H.Le (Bs.set i x):=fun x=>F3 m u.2;have y:=fun(Q:D→Heap→Prop) (H:Heap)=>S4 (Q:=Q) f z U H;unfold B7b at h;cases hv:E3 f with
 |false=>
  rw[hv]at h y;simp only[D1p,if_false]at h;repeat' (first|simp only[go_sem,seval,e1,e2]|with_reducible refine y _ _ ?_)
  exact D4 (A7M 2) (D21 (C _) h)
 |true=>
  rw[hv]at h y;simp only[if_true]at h;have j:=M5 hv;have W:=A7K hv;obtain⟨G,X⟩:=B1O f true j z;have nv:VOk (normF f true):=.inl (by omega);have d:=fun(Q:D→Heap→Prop) (H:Heap)=>S4 (Q:=Q) (normF f true) G nv H;have M:=fun(Q:D→Heap→Prop) (H:Heap)=>A7L (Q:=Q) f j z true H;have O:=fun(Q:D→Heap→Prop) (H:Heap)=>B4R (Q:=Q) (normF f true) G H;generalize normF f true=g at h d M O G X nv;repeat' (first|simp only[go_sem,seval,e1]|(intro o;try simp only[A6]at o)|with_reducible refine y _ _ ?_|with_reducible refine M _ _ ?_|with_reducible refine O _ _ ?_)
  rename_i r;have I:=o;clear o;have Y:i≠r:=fun e=>by rw[←e,e2]at I;cases I
  have J:(Bs.set r (.box (B9 g))) r=some (.box (B9 g)):=A0 _ _;have L:(Bs.set r (.box (B9 g))) i=some (.box [.int .i64 0,.int .i64 0,.nilsl,.int .i64 0,.bool false,.str ⟨#[]⟩,.nilsl]):=by rw[A3 _ Y];exact e2
  have p: ∀x,H.Le ((Bs.set r (.box (B9 g))).set i x):=fun x=>F3 (m.trans (A2 I)) u.2;generalize Bs.set r (.box (B9 g))=Cs at J L p⊢;cases T:E3 g with
  |false=>
   rw[T]at h d;simp only[D1p,if_false]at h;repeat' (first|simp only[go_sem,seval,J,L]|with_reducible refine d _ _ ?_)
   exact D4 (A7M 3) (D21 (p _) h)
  |true=>
   rw[T]at h d;simp only[if_true]at h;repeat' (first|simp only[go_sem,seval,J,L]|with_reducible refine d _ _ ?_)
   exact D21 (p _) h
end Go.Proofs.YtibphjonmikciaaGreatDoor
namespace Go.Fo
open Go Go.Av Go.Lexs Go.Lin
theorem B5h(b:Bool)(t:LTm)(h1:G5 (B t.v)=true)(d:t.c.natAbs≤1048576):(R5 b t).length≤230:=by
 have:=A1c 18 t.c.natAbs (by omega);have hn:=A3X h1;have hb:=M8 t.v;unfold R5;simp only[D1f];have e1:(if t.c<0 then [45]else if b=true then([]:List UInt8)else [43]).length≤1:=by split;simp;split<;>simp
 have e2:(if t.c.natAbs=1 then([]:List UInt8)else dec t.c.natAbs++[42]).length≤20:=by
  split
  ·simp
  ·simp only[D1f,D1e,D1g];omega
 omega
theorem B3H: ∀(l:List LTm) (b:Bool),(∀t∈l,G5 (B t.v)=true∧t.c.natAbs≤1048576)→(J4 b l).length≤230*l.length:=by
 intro l
 induction l with
 |nil=>intro b _;simp[J4]
 |cons t l d=>
  intro b h;rw[J4,D1f,D1e];have:=B5h b t (h t (D1k ..)).1 (h t (D1k ..)).2;have:=d false fun x hx=>h x (D1r _ hx);omega
theorem B5i{l:LinV}(h:validL l=true):(E9 l).length≤230*l.t.length+30:=by
 have ok:=K7 h;have h1:=B3H l.t true fun t d=>⟨(N0 ok.t t d).1,(N0 ok.t t d).2.2⟩
 have hk:=ok.k;have:=A1c 18 l.k.natAbs (by omega);have e1:(P8 l).length≤20:=by
  unfold P8 y7;split
  ·have e1:(if l.k<0 then [45]else if l.t.isEmpty=true then([]:List UInt8)else [43]).length≤1:=by split;simp;split<;>simp
   rw[D1f];omega
  ·simp
 have e2:(if l.e=true then([61,48]:List UInt8)else [62,61,48]).length≤3:=by split<;>simp
 unfold E9 L8;rw[D1f,D1f];omega
theorem A2R: ∀(f:Fm),G8 D5 f=true→(C8 f).length+2≤400*J5 f:=by
 intro f
 induction f using R4 with
 |h o n l s ks e=>
  intro i;have hk: ∀k∈ks,G8 D5 k=true:=fun k hk=>N9 (f:=.mk o n l s ks) i hk;have key: ∀(m:List Fm) (b:Bool),(∀k∈m,(C8 k).length+2≤400*J5 k)→(C8.textK b m).length≤400*J5.wtL m:=by
   intro m
   induction m with
   |nil=>intro b _;simp[C8.textK]
   |cons g j d=>
    intro b hm;have p:=hm g (D1k ..);have q:=d false fun k h=>hm k (D1r _ h);have r:(if b=true then([]:List UInt8)else [44,32]).length≤2:=by split<;>simp
    rw[M2,J5.wtL,D1f,D1f];omega
  have u:=key ks true fun k hm=>e k hm (hk k hm);have hw:J5 (.mk o n l s ks)=1+l.t.length+J5.wtL ks:=K5 _;rw[hw];cases V4 i with
  |con n h=>rw[A8V rfl];split<;>(simp only[j0,flsB,D1e,D1g];omega)
  |lin l h hp=>rw[A8W rfl];have:=B5i h;simp only[Fm.l];omega
  |var s h=>
   rw[A8X rfl];have:=A3X (A7D h);have:=M8 s;simp only[Fm.s,D1e];omega
  |not k=>rw[A8Y rfl rfl];have:=e k (D1k ..) (hk k (D1k ..));simp only[J5.wtL,D1e];omega
  |and ks=>rw[A1x (by simp[Fm.op]) (by simp[Fm.op]) (by simp[Fm.op]) (by simp[Fm.op])];simp only[Fm.ks,D1e,D1f,D1g];omega
  |or ks=>rw[A1x (by simp[Fm.op]) (by simp[Fm.op]) (by simp[Fm.op]) (by simp[Fm.op])];simp only[Fm.ks,D1e,D1f,D1g];omega
theorem A2S(ks:List Fm)(i:Nat)(hk: ∀k∈ks,G8 D5 k=true):(C8.textK true (ks.take i)).length≤400*J5.wtL (ks.take i):=by
 have key: ∀(m:List Fm) (b:Bool),(∀k∈m,G8 D5 k=true)→(C8.textK b m).length≤400*J5.wtL m:=by
  intro m
  induction m with
  |nil=>intro b _;simp[C8.textK]
  |cons g e d=>
   intro b hm;have j:=A2R g (hm g (D1k ..));have o:=d false fun k h=>hm k (D1r _ h);have p:(if b=true then([]:List UInt8)else [44,32]).length≤2:=by split<;>simp
   rw[M2,J5.wtL,D1f,D1f];omega
 exact key _ true fun k h=>hk k (List.mem_of_mem_take h)
theorem node_or{f:Fm}(d:G8 D5 f=true):(∃m,(m=0∨m=1)∧f= .mk 1 m nilL D3 [])∨(∃l,validL l=true∧(∀t∈l.t,plainB t.v=true)∧f= .mk 2 0 l D3 [])∨(∃s,plainB s=true∧f= .mk 3 0 nilL s [])∨(∃k,f= .mk 4 0 nilL D3 [k])∨∃o ks,(o=5∨o=6)∧f= .mk o 0 nilL D3 ks:=by
 cases V4 d with
 |con n h=>exact .inl ⟨n,h,rfl⟩
 |lin l h hp=>exact .inr (.inl ⟨l,h,hp,rfl⟩)
 |var s h=>exact .inr (.inr (.inl ⟨s,h,rfl⟩))
 |not k=>exact .inr (.inr (.inr (.inl ⟨k,rfl⟩)))
 |and ks=>exact .inr (.inr (.inr (.inr ⟨5,ks,.inl rfl,rfl⟩)))
 |or ks=>exact .inr (.inr (.inr (.inr ⟨6,ks,.inr rfl,rfl⟩)))
theorem R7(l:List Fm)(i:Nat)(h:i<l.length):J5.wtL (l.take i)+J5 l[i]≤J5.wtL l:=by
 have:=A58 (l.take i) (l.drop i);rw[D2K]at this;have:=A4y l i h;omega
end Go.Fo
namespace Go.Proofs.YtibphjonmikciaaGreatDoor
open Go Go.Av Go.Lexs Go.Lin Go.Fo
attribute [local irreducible] ACalls Q4
set_option maxHeartbeats 4000000 in
theorem C0s(n:Nat): ∀{Q} (f:Fm) (hn:SizeOf.sizeOf f≤n) (hf:G8 D5 f=true) (fa:FmFit f) (b:Nat) (st:Option Nat) (bs:List UInt8) (hl:bs.length+400*J5 f≤140737488355328) (H:Heap) (hT:Tabs H) (a5:BldOk H b st bs)
    (h: ∀c',BldOk H b (some c') (bs++C8 f)→Q (.tuple []) (L6 H b (some c') (bs++C8 f))),D8 68 [.box b 0,.agg (B9 f)] (L6 H b st bs) Q:=by
  induction n with
  |zero=>intro Q f hn;cases f;simp at hn
  |succ n ih=>
  intro Q f hn hf fa b st bs hl H hT a5 h;refine A8 [] A5 Tryz.func68 rfl ?_;simp only[go_sem,seval,Tryz.results68];intro b3 g3;have q:=A2R f hf;have a6:=fa.kl;obtain⟨e3,j,b7⟩:=A3v (o:=.box (B9 f)) g3 a5;rw[e3];have c3:(H.set b3 (.box (B9 f))) b3=some (.box (B9 f)):=A0 _ _;have J:H.Le (H.set b3 (.box (B9 f))):=A2 b7;have z:=hT.le J;generalize H.set b3 (.box (B9 f))=Bs at j c3 J z⊢;have d3: ∀{a9 b0},BldOk Bs b a9 b0→L6 Bs b a9 b0 b3=some (.box (B9 f)):=fun hk=>A2m hk _ _ c3;have p3:=d3 j;have done: ∀c':Nat,BldOk Bs b (some c') (bs++C8 f)→Fin Q (.tuple []) (L6 Bs b (some c') (bs++C8 f)):=fun c' hk=>D21 (A57 J) (h c' (hk.less J));rcases node_or hf with⟨m,hm,rfl⟩|⟨l,hv,hp,rfl⟩|⟨s,hp,rfl⟩|⟨k,rfl⟩|⟨o,ks,ho,rfl⟩
  · rw[A8V rfl]at done q
    simp only[Fm.n]at done q;have z1:(⟨#[116,114,117,101]⟩:ByteArray).size=4:=rfl;have z0:(⟨#[102,97,108,115,101]⟩:ByteArray).size=5:=rfl;rcases hm with rfl|rfl
    all_goals
      (repeat' (first|with_reducible apply D1Z|simp only[go_sem,seval,p3]|simp(disch:=first|omega|grind) only[B3]|intro r)
       rename_i x;have hx:=r;clear r;obtain⟨e5,A,b9⟩:=A3v (o:=.vec 1 [[.str ⟨#[102,97,108,115,101]⟩],[.str ⟨#[116,114,117,101]⟩]]) hx j;have C:=A2 (o:=.vec 1 [[.str ⟨#[102,97,108,115,101]⟩],[.str ⟨#[116,114,117,101]⟩]]) b9;have q3:L6 (Bs.set x (.vec 1 [[.str ⟨#[102,97,108,115,101]⟩],[.str ⟨#[116,114,117,101]⟩]])) b st bs b3=_:=A2m A _ _ (C _ _ c3);have qx:L6 (Bs.set x (.vec 1 [[.str ⟨#[102,97,108,115,101]⟩],[.str ⟨#[116,114,117,101]⟩]])) b st bs x=some (.vec 1 [[.str ⟨#[102,97,108,115,101]⟩],[.str ⟨#[116,114,117,101]⟩]]):=A2m A _ _ (A0 _ _);rw[e5];repeat' (first|with_reducible apply D1Z|simp only[go_sem,seval,q3,qx]|simp(disch:=omega) only[A4,A9,Y0,C3,R7]|simp(disch:=first|omega|grind) only[B3]|intro r|omega)
       refine O5 b st bs _ _ A ?_ ?_ fun c' d=>?_
       · decide
       · simp only[z1,z0];omega
       repeat' simp only[go_sem,seval]
       exact Fin.then (A57 C) (done c' (d.less C)))
  · rw[A8W rfl]at done q
    simp only[Fm.l]at done q;have hlen:(S (E9 l)).size=(E9 l).length:=J3 _;have d0:(E9 l).length≠0:=fun e=>A9g l (D1x e);have tx:=fun(Q:D→Heap→Prop) (H:Heap) (hT:Tabs H)=>B7s (Q:=Q) l fa.lin H hT;simp only[hv,if_true]at tx;repeat' (first|with_reducible apply D1Z|simp only[go_sem,seval,p3]|with_reducible refine tx _ _ (z.le (A2m j)) ?_)
    refine O5 b st bs (S (E9 l)) _ j (by omega) (by omega) fun c' d=>?_;rw[Q7]at d⊢;repeat' simp only[go_sem,seval]
    exact done c' d
  · rw[A8X rfl]at done q
    simp only[Fm.s]at done q;have hlen:(⟨#[63]⟩++s:ByteArray).size=1+s.size:=by rw[ByteArray.size_append];rfl
    have hB:B (⟨#[63]⟩++s:ByteArray)=63::B s:=by rw[M9];rfl
    have d2:=M8 s;simp only[D1e]at q;repeat' (first|with_reducible apply D1Z|simp only[go_sem,seval,p3]|omega)
    refine O5 b st bs (⟨#[63]⟩++s) _ j (by omega) (by omega) fun c' d=>?_;rw[hB]at d⊢;repeat' simp only[go_sem,seval]
    exact done c' d
  · rw[A8Y rfl rfl]at done q
    have r0:(Rw B9 [k]).getD 0 []=B9 k:=rfl;have hsz:SizeOf.sizeOf k<SizeOf.sizeOf (Fm.mk 4 0 nilL D3 [k]):=S3 (f:=.mk 4 0 nilL D3 [k]) (D1k ..);have hw:J5 (.mk 4 0 nilL D3 [k])=1+J5 k:=by rw[K5];simp[Fm.l,Fm.ks,nilL,J5.wtL]
    rw[hw]at hl;repeat' (first|with_reducible apply D1Z|simp only[go_sem,seval,p3])
    refine O5 b st bs ⟨#[33]⟩ _ j (by decide) (by show _+1≤_;omega) fun c' d=>?_;have hB:B (⟨#[33]⟩:ByteArray)= [33]:=rfl;rw[hB]at d⊢;have q3:=d3 d;repeat' simp only[go_sem,seval,q3,r0]
    all_goals first
      |decide
      |omega
      |skip
    refine ih k (by omega) (N9 hf (D1k ..)) (fa.kid (D1k ..)) b (some c') (bs++[33]) (by rw[D1f,D1h];omega) _ z d fun c7 O=>?_;have he:bs++[33]++C8 k=bs++33::C8 k:=by simp
    rw[he]at O⊢;repeat' simp only[go_sem,seval]
    exact done c7 O
  · have L: ∀k∈ks,G8 D5 k=true:=fun k hk=>N9 (f:=.mk o 0 nilL D3 ks) hf hk
    have b1: ∀k∈ks,FmFit k:=fun k hk=>fa.kid hk;have a6:ks.length≤1466015503658:=a6;have hw:J5 (.mk o 0 nilL D3 ks)=1+J5.wtL ks:=by rw[K5];simp[Fm.l,Fm.ks,nilL]
    rw[hw]at hl;have b2:B (⟨#[41]⟩:ByteArray)= [41]:=rfl;have b4:B (⟨#[44,32]⟩:ByteArray)= [44,32]:=rfl;have hsz: ∀k∈ks,SizeOf.sizeOf k<SizeOf.sizeOf (Fm.mk o 0 nilL D3 ks):=fun k hk=>S3 (f:=.mk o 0 nilL D3 ks) hk;obtain⟨T,G⟩: ∃T:ByteArray,T=if o=6 then⟨#[124,40]⟩else⟨#[38,40]⟩:=⟨_,rfl⟩
    have c0:C8 (.mk o 0 nilL D3 ks)=B T++(C8.textK true ks++[41]):=by
      rcases ho with rfl|rfl
      · rw[A1x (by simp[Fm.op]) (by simp[Fm.op]) (by simp[Fm.op]) (by simp[Fm.op]),G];rfl
      · rw[A1x (by simp[Fm.op]) (by simp[Fm.op]) (by simp[Fm.op]) (by simp[Fm.op]),G];rfl
    rw[c0]at done q;have c4:T.size=2:=by rw[G];split<;>rfl
    have d4:=M8 T;rcases ho with rfl|rfl
    all_goals
      (simp only[Int.reduceEq,if_true,if_false]at G
       repeat' (first|with_reducible apply D1Z|simp only[go_sem,seval,p3,←G])
       refine O5 b st bs T _ j (by omega) (by omega) fun c' d=>?_;have q3:=d3 d;repeat' simp only[go_sem,seval,q3]
       obtain⟨X0,U⟩: ∃X0,X0=bs++B T:=⟨_,rfl⟩
       rw[←U]at d q3⊢;have c5:X0.length=bs.length+2:=by rw[U,D1f];omega
       refine C2 [0,18,19] (fun(y:Nat×Nat×List UInt8)=>[(20,.int .i64 y.1)]) (fun(y:Nat×Nat×List UInt8)=>L6 Bs b (some y.2.1) y.2.2) (fun(y:Nat×Nat×List UInt8)=>y.1≤ks.length∧BldOk Bs b (some y.2.1) y.2.2∧y.2.2=X0++C8.textK true (ks.take y.1)) (fun(y:Nat×Nat×List UInt8)=>ks.length-y.1) ((0,c',X0)) (⟨D1u _,d,by simp[C8.textK]⟩) (by simp only[go_sem,seval]) (D20 _) ?_;rintro Ec rfl ⟨i,c,X⟩ ⟨q1,q2,q4⟩;simp only at q1 q2 q4
       have c1:X.length≤bs.length+2+400*J5.wtL (ks.take i):=by
         have:=A2S ks i L;rw[q4,D1f];omega
       by_cases u:i<ks.length
       · have M:decide ((i:Int)<ks.length)=true:=D1b (by omega)
         have b6:(i:Int)<ks.length:=by omega
         have hm:=D1n u;have d5:=R7 ks i u;have c6:=A2R ks[i] (L _ hm);by_cases h0:i=0
         · have hg:decide ((0:Int)<i)=false:=D1c (by omega)
           have V: ¬(0:Int)<i:=by omega
           repeat' (first|with_reducible apply D1Z|simp only[go_sem,seval,M,b6,hg,V,A9 _ _ u,C0 _ _ u]|intro r|omega)
           rename_i W;have Y:=r;clear r;obtain⟨e8,I,a0⟩:=A3v (o:=.box (B9 ks[i])) Y q2;have p:Bs.Le (Bs.set W (.box (B9 ks[i]))):=A2 a0;have c8:(Bs.set W (.box (B9 ks[i]))) W=some (.box (B9 ks[i])):=A0 _ _;rw[e8];refine ih ks[i] (by have:=hsz _ hm;omega) (L _ hm) (b1 _ hm) b (some c) X (by omega) _ (z.le p) I fun c9 g=>?_;repeat' (first|simp only[go_sem,seval]|simp(disch:=omega) only[A4,A9,Y0,C3,R7])
           exact C1 (i+1,c9,X++C8 ks[i]) ⟨by simp only[];omega,g.less p,by simp only[];rw[q4,Y0 _ _ u,if_pos h0];simp⟩ (by simp only[];omega) (by(try simp only[go_sem,seval])<;>(try simp(disch:=omega) [A4])) (A57 p)
         · have hg:decide ((0:Int)<i)=true:=D1b (by omega)
           have V:(0:Int)<i:=by omega
           repeat' (first|with_reducible apply D1Z|simp only[go_sem,seval,M,b6,hg,V,A9 _ _ u,C0 _ _ u]|intro r|omega)
           rename_i W;have Y:=r;clear r;obtain⟨e8,I,a0⟩:=A3v (o:=.box (B9 ks[i])) Y q2;have p:Bs.Le (Bs.set W (.box (B9 ks[i]))):=A2 a0;have c8:(Bs.set W (.box (B9 ks[i]))) W=some (.box (B9 ks[i])):=A0 _ _;rw[e8];refine O5 b (some c) X ⟨#[44,32]⟩ _ I (by decide) (by show _+2≤_;omega) fun c9 g=>?_;rw[b4]at g⊢;have d8:=A2m g _ _ c8;repeat' simp only[go_sem,seval,d8]
           refine ih ks[i] (by have:=hsz _ hm;omega) (L _ hm) (b1 _ hm) b (some c9) (X++[44,32]) (by rw[D1f];simp only[D1e,D1g];omega) _ (z.le p) g fun c2 a4=>?_;repeat' (first|simp only[go_sem,seval]|simp(disch:=omega) only[A4,A9,Y0,C3,R7])
           exact C1 (i+1,c2,X++[44,32]++C8 ks[i]) ⟨by simp only[];omega,a4.less p,by simp only[];rw[q4,Y0 _ _ u,if_neg h0];simp⟩ (by simp only[];omega) (by(try simp only[go_sem,seval])<;>(try simp(disch:=omega) [A4])) (A57 p)
       · have M:decide ((i:Int)<ks.length)=false:=D1c (by omega)
         rw[D1o (by omega)]at q4 c1;repeat' simp only[go_sem,seval,M]
         refine O5 b (some c) X ⟨#[41]⟩ _ q2 (by decide) (by show _+1≤_;omega) fun c9 g=>?_;rw[b2]at g⊢;have he:X++[41]=bs++(B T++(C8.textK true ks++[41])):=by rw[q4,U];simp only[D2N]
         rw[he]at g⊢;repeat' simp only[go_sem,seval]
         exact done c9 g)
theorem A6H{Q}(f:Fm)(u:FmFit f)(x:VOk f)(H:Heap)(y:Tabs H)(h:Q (.tuple [.str (if E3 f=true then S (C8 f)else S []),.int .i64 (if E3 f=true then 0 else 2)]) H):D8 27 [.agg (B9 f)] H Q:=by
 refine A8 [] A5 Tryz.func27 rfl ?_;simp only[go_sem,seval,Tryz.results27];intro o z;have e1:(H.set o (.box (B9 f))) o=some (.box (B9 f)):=A0 _ _;have d:H.Le (H.set o (.box (B9 f))):=A2 z;generalize H.set o (.box (B9 f))=Bs at e1 d⊢;have q:=y.le d;have p:=fun(Q:D→Heap→Prop) (H:Heap)=>S4 (Q:=Q) f u x H;cases hv:E3 f with
 |false=>
  rw[hv]at h p;simp only[D1p,if_false]at h;repeat' (first|simp only[go_sem,seval,e1]|with_reducible refine p _ _ ?_)
  exact D21 d h
 |true=>
  rw[hv]at h p;simp only[if_true]at h;have A:=A7K hv;repeat' (first|simp only[go_sem,seval,e1]|simp(disch:=first|omega|grind) only[B3]|intro i|with_reducible refine p _ _ ?_)
  rename_i j;have C:=i;clear i;have m:BldOk Bs j none []:=⟨C,fun _=>rfl,fun c e=>by cases e⟩
  have r:Bs.set j (.box [.nilp,.nilsl] (some 97))=L6 Bs j none []:=rfl;rw[r];have d1:=A2m m _ _ e1;repeat' (first|with_reducible apply D1Z|simp only[go_sem,seval,d1]|simp(disch:=omega) only[C3]|simp(disch:=first|omega|grind) only[B3]|intro i|omega)
  refine C0s _ f (D1t _) (M5 hv) u j none [] (by simp only[D1g];omega) _ q m fun c' g=>?_;rw[D2l]at g⊢;repeat' (first|simp only[go_sem,seval]|with_reducible refine B0t j c' (C8 f) _ g ?_)
  exact D21 d h
end Go.Proofs.YtibphjonmikciaaGreatDoor
namespace Go.Fo
open Go Go.Av Go.Lexs Go.Lin
def B8X(f:Fm):Bool:=(decide (f.op=1)||decide (f.n=0))&&(decide (f.op=3)||decide (f.s.size=0))&&(decide (f.op=2)||lin0 f.l)
def B4S(f:Fm):Bool:=
 if f.op=1 then decide ((f.ks.length:Int)=0)&&(decide (f.n=0)||decide (f.n=1))
 else if f.op=2 then(f.l.t.all fun t=>plainB t.v)&&(decide ((f.ks.length:Int)=0)&&validL f.l)
 else if f.op=3 then decide ((f.ks.length:Int)=0)&&plainB f.s
 else if f.op=4 then decide ((f.ks.length:Int)=1)
 else decide (f.op=5)||decide (f.op=6)
theorem C0t(f:Fm):D5 f=(B8X f&&B4S f):=by
 unfold D5 B8X B4S;rw[B4N,B4O];by_cases o1:f.op=1
 ·simp only[o1,if_true,decide_true,Bool.true_or,Bool.true_and,show¬((1:Int)=3)by decide,show¬((1:Int)=2)by decide,decide_false,Bool.false_or];cases decide (f.n=0)<;>cases decide (f.n=1)<;>cases decide (f.s.size=0)<;>cases lin0 f.l<;>cases decide ((f.ks.length:Int)=0)<;>rfl
 by_cases o2:f.op=2
 ·simp only[o2,if_true,decide_true,Bool.true_or,Bool.and_true,show¬((2:Int)=3)by decide,show¬((2:Int)=1)by decide,decide_false,Bool.false_or,if_false];cases decide (f.n=0)<;>cases decide (f.s.size=0)<;>cases decide ((f.ks.length:Int)=0)<;>cases validL f.l<;>cases (f.l.t.all fun t=>plainB t.v)<;>rfl
 by_cases o3:f.op=3
 ·simp only[o3,if_true,decide_true,Bool.true_or,Bool.and_true,show¬((3:Int)=2)by decide,show¬((3:Int)=1)by decide,decide_false,Bool.false_or,if_false];cases decide (f.n=0)<;>cases lin0 f.l<;>cases decide ((f.ks.length:Int)=0)<;>cases plainB f.s<;>rfl
 simp only[o1,o2,o3,if_false,decide_false,Bool.false_or];by_cases d:f.op=4
 ·simp only[d,if_true]
 ·simp only[d,if_false];by_cases e:f.op=5
  ·simp[e]
  ·by_cases g:f.op=6
   ·simp[g]
   ·simp[e,g]
def j5(f:Fm)(deep:Int):Bool:=decide ((N4 f:Int)≤deep)&&G8 D5 f
theorem B5j(f:Fm)(d:Int):j5 f d=(decide (1≤d)&&B8X f&&f.ks.all (fun k=>j5 k (d-1))&&B4S f):=by
 rw[Bool.eq_iff_iff];unfold j5;rw[A1k,C0t];simp only[D1m,D1v,D2A];constructor
 ·rintro⟨h1,⟨g,e⟩,h⟩;have:=(A1F f d.toNat).1 (by omega);exact⟨⟨⟨by omega,g⟩,fun k hk=>⟨by have:=this.2 k hk;omega,h k hk⟩⟩,e⟩
 ·rintro⟨⟨⟨h1,g⟩,e⟩,h⟩;have:=(A1F f d.toNat).2 ⟨by omega,fun k hk=>by have:=(e k hk).1;omega⟩;exact⟨by omega,⟨g,h⟩,fun k hk=>(e k hk).2⟩
end Go.Fo
namespace Go.Proofs.YtibphjonmikciaaGreatDoor
open Go Go.Av Go.Lexs Go.Lin Go.Fo
attribute [local irreducible] ACalls Q4
theorem B8Y{Q}(a:LinV)(r:S7 a)(H:Heap)(h:Q (.bool (lin0 a)) H):D8 60 [.agg (E4 a),.agg [.nilsl,.int .i64 0,.bool false]] H Q:=by
 refine A8 [(6,.par)] A5 Tryz.func60 rfl ?_;simp only[go_sem,seval,Tryz.results60];intro g u j p;simp only[A6]at p;have e2:((H.set g (.box (E4 a))).set j (.box [.nilsl,.int .i64 0,.bool false])) g=some (.box (E4 a)):=by rw[A3 _ p.1.symm,A0]
 have e3:((H.set g (.box (E4 a))).set j (.box [.nilsl,.int .i64 0,.bool false])) j=some (.box [.nilsl,.int .i64 0,.bool false]):=A0 _ _;have d:H.Le ((H.set g (.box (E4 a))).set j (.box [.nilsl,.int .i64 0,.bool false])):=(A2 u).trans (A2 (by simp only[A6];exact p));generalize (H.set g (.box (E4 a))).set j (.box [.nilsl,.int .i64 0,.bool false])=Bs at e2 e3 d⊢;have hlen:=r.len;have d1:decide (a.t= [])=decide ((a.t.length:Int)=0):=D2C.2 (by rw[←List.length_eq_zero_iff];omega);unfold lin0 at h;rw[d1]at h;by_cases o:a.k=0
 ·by_cases m:a.e=true
  ·repeat' simp only[go_sem,seval,e2,e3,o,m]
   all_goals (refine D21 d ?_;simp_all)
  ·have m:a.e=false:=by simpa using m
   by_cases t0:(a.t.length:Int)=0
   ·repeat' simp only[go_sem,seval,e2,e3,o,m,t0]
    refine C2 [2,3,29] (fun(i:Nat)=>[(30,.int .i64 i)]) (fun(i:Nat)=>Bs) (fun(i:Nat)=>i=0) (fun(i:Nat)=>0-i) (0) (rfl) (by simp only[go_sem,seval]) (D20 _) ?_;rintro x rfl i y;have q:decide ((i:Int)<0)=false:=D1c (by omega);repeat' simp only[go_sem,seval,q]
    refine D21 d ?_;simp_all
   ·repeat' simp only[go_sem,seval,e2,e3,o,m,t0]
    all_goals (refine D21 d ?_;simp_all)
 ·repeat' simp only[go_sem,seval,e2,e3,o]
  all_goals (refine D21 d ?_;simp_all)
theorem C0u(n:Nat): ∀{Q} (f:Fm) (hn:SizeOf.sizeOf f≤n) (x:FmFit f) (d:Int) (h0:0≤d) (h1:d≤60) (H:Heap) (h:Q (.bool (j5 f d)) H),D8 57 [.agg (B9 f),.int .i64 d] H Q:=by
  induction n with
  |zero=>intro Q f hn;cases f;simp at hn
  |succ n ih=>
  intro Q f hn x d h0 h1 H h;refine A8 [(3,.wk)] A5 Tryz.func57 rfl ?_;simp only[go_sem,seval,Tryz.results57];have a0:=x.kl;have a4:=x.lin.len;rw[B5j]at h;intro y g2;have e2:(H.set y (.box (B9 f))) y=some (.box (B9 f)):=A0 _ _;have e:H.Le (H.set y (.box (B9 f))):=A2 g2;generalize H.set y (.box (B9 f))=Bs at e2 e⊢;apply I6 (C:=1≤d∧B8X f=true)
  · intro A
    have d1:decide (f.s.size=0)=decide (B f.s= []):=by
      rw[←M8];exact D2C.2 List.length_eq_zero_iff
    unfold B8X at A h;rw[d1]at A h;by_cases G:d<1
    · repeat' (first|with_reducible apply D1Z|simp only[go_sem,seval,e2,G])
      all_goals (refine D21 e ?_;have: ¬1≤d:=by omega
                 simpa [this]using h)
    · have I:1≤d:=by omega
      have T:=fun(Q:D→Heap→Prop)=>B8Y (Q:=Q) f.l x.lin Bs;generalize lin0 f.l=l0 at A h T;by_cases o1:f.op=1
      · repeat' (first|with_reducible apply D1Z|simp only[go_sem,seval,e2,G,o1]|intro m|with_reducible refine T _ ?_)
        all_goals first
          |exact F2 [(1,.int .i64 d),(2,.box y 0)] Bs (by simp only[go_sem,seval]) (D20 _) (A (by simp_all))
          |(refine D21 e ?_;simp_all;done)
      · by_cases o2:f.op=2
        · repeat' (first|with_reducible apply D1Z|simp only[go_sem,seval,e2,G,o2]|intro m)
          all_goals first
            |exact F2 [(1,.int .i64 d),(2,.box y 0)] Bs (by simp only[go_sem,seval]) (D20 _) (A (by simp_all))
            |(refine D21 e ?_;simp_all;done)
        · by_cases o3:f.op=3
          · repeat' (first|with_reducible apply D1Z|simp only[go_sem,seval,e2,G,o3]|intro m|with_reducible refine T _ ?_)
            all_goals first
              |exact F2 [(1,.int .i64 d),(2,.box y 0)] Bs (by simp only[go_sem,seval]) (D20 _) (A (by simp_all))
              |(refine D21 e ?_;simp_all;done)
          · repeat' (first|with_reducible apply D1Z|simp only[go_sem,seval,e2,G,o1,o2,o3]|intro m|with_reducible refine T _ ?_)
            all_goals first
              |exact F2 [(1,.int .i64 d),(2,.box y 0)] Bs (by simp only[go_sem,seval]) (D20 _) (A (by simp_all))
              |(refine D21 e ?_;simp_all;done)
  rintro⟨I,J⟩;rw[J,D1b I]at h;simp only[Bool.true_and]at h;have Y:IntKind.i64.wrap (d-1)=d-1:=A4 (by omega) (by omega);repeat' simp only[go_sem,seval,e2]
  refine C2 [1,2,44,45] (fun(i:Nat)=>[(46,.int .i64 i)]) (fun(i:Nat)=>Bs) (fun(i:Nat)=>i≤f.ks.length∧∀(j:Nat) (L:j<f.ks.length),j<i→j5 f.ks[j] (d-1)=true) (fun(i:Nat)=>f.ks.length-i) (0) (⟨D1u _,fun _ _ h=>absurd h (D2p _)⟩) (by simp only[go_sem,seval]) (D20 _) ?_;rintro Ec rfl i ⟨hi,z⟩;by_cases u:i<f.ks.length
  · have o:decide ((i:Int)<f.ks.length)=true:=D1b (by omega)
    have M:(i:Int)<f.ks.length:=by omega
    have hm:=D1n u;have U:=fun(Q:D→Heap→Prop) (H:Heap)=>ih (Q:=Q) f.ks[i] (by have:=S3 hm;omega) (x.kid hm) (d-1) (by omega) (by omega) H;cases hs:j5 f.ks[i] (d-1)with
    |false=>
      rw[hs]at U;have X:(f.ks.all fun k=>j5 k (d-1))=false:=List.all_eq_false.2 ⟨_,hm,by rw[hs];simp⟩;rw[X]at h;simp only[Bool.false_and]at h;repeat' (first|with_reducible apply D1Z|simp only[go_sem,seval,o,M,A9 _ _ u,C0 _ _ u,Y]|intro m|with_reducible refine U _ _ ?_|omega)
      exact D21 (by simp only[D7,C9,D0]at* <;>grind) h
    |true=>
      rw[hs]at U;repeat' (first|with_reducible apply D1Z|simp only[go_sem,seval,o,M,A9 _ _ u,C0 _ _ u,Y]|simp(disch:=omega) only[A4,A9,C3]|intro m|with_reducible refine U _ _ ?_|omega)
      refine C1 (i+1) ⟨by omega,fun j L a5=>?_⟩ (by omega) (by(try simp only[go_sem,seval])<;>(try simp(disch:=omega) [A4])) (by simp only[D7,C9,D0]at* <;>grind);rcases Nat.lt_or_ge j i with g|g
      · exact z j L g
      · have:j=i:=by omega
        subst this;exact hs
  · have o:decide ((i:Int)<f.ks.length)=false:=D1c (by omega)
    have X:(f.ks.all fun k=>j5 k (d-1))=true:=D2A.2 fun k hk=>by
      obtain⟨j,L,rfl⟩:=List.getElem_of_mem hk;exact z j L (by omega)
    rw[X]at h;simp only[Bool.true_and]at h;unfold B4S at h;by_cases o1:f.op=1
    · rw[if_pos o1]at h
      repeat' (first|with_reducible apply D1Z|simp only[go_sem,seval,o,e2,o1]|intro m)
      all_goals (refine D21 e ?_;simp_all)
    rw[if_neg o1]at h;by_cases o2:f.op=2
    · rw[if_pos o2]at h
      repeat' simp only[go_sem,seval,o,e2,o2]
      refine C2 [2,78,79] (fun(j:Nat)=>[(80,.int .i64 j)]) (fun(j:Nat)=>Bs) (fun(j:Nat)=>j≤f.l.t.length∧(f.l.t.all fun t=>plainB t.v)=((f.l.t.drop j).all fun t=>plainB t.v)) (fun(j:Nat)=>f.l.t.length-j) (0) (⟨D1u _,rfl⟩) (by simp only[go_sem,seval]) (D20 _) ?_;rintro a6 rfl j ⟨L,p⟩;by_cases r:j<f.l.t.length
      · have q:decide ((j:Int)<f.l.t.length)=true:=D1b (by omega)
        have O:(j:Int)<f.l.t.length:=by omega
        have hst:=x.lin.str _ (D1n r);rw[D14 r,D2c]at p;have V:=fun(Q:D→Heap→Prop) (H:Heap)=>B1k (Q:=Q) f.l.t[j].v hst H;cases hp:plainB f.l.t[j].v with
        |false=>
          rw[hp]at V p;rw[p]at h;simp only[Bool.false_and]at h;repeat' (first|with_reducible apply D1Z|simp only[go_sem,seval,q,O,A9 _ _ r,C0 _ _ r]|intro m|with_reducible refine V _ _ ?_|omega)
          exact D21 (by simp only[D7,C9,D0]at* <;>grind) h
        |true=>
          rw[hp]at V p;repeat' (first|with_reducible apply D1Z|simp only[go_sem,seval,q,O,A9 _ _ r,C0 _ _ r]|simp(disch:=omega) only[A4,A9,C3]|intro m|with_reducible refine V _ _ ?_|omega)
          exact C1 (j+1) ⟨by omega,by simpa using p⟩ (by omega) (by(try simp only[go_sem,seval])<;>(try simp(disch:=omega) [A4])) (by simp only[D7,C9,D0]at* <;>grind)
      · have q:decide ((j:Int)<f.l.t.length)=false:=D1c (by omega)
        rw[List.drop_eq_nil_of_le (by omega),List.all_nil]at p;rw[p]at h;simp only[Bool.true_and]at h;repeat' (first|with_reducible apply D1Z|simp only[go_sem,seval,q,e2]|intro m|with_reducible refine A63 f.l x.lin _ ?_)
        all_goals (refine D21 e ?_;simp_all)
    rw[if_neg o2]at h;by_cases o3:f.op=3
    · rw[if_pos o3]at h
      repeat' (first|with_reducible apply D1Z|simp only[go_sem,seval,o,e2,o3]|intro m|with_reducible refine B1k f.s x.txt _ ?_)
      all_goals (refine D21 e ?_;simp_all)
    rw[if_neg o3]at h;by_cases W:f.op=4
    · rw[if_pos W]at h
      repeat' simp only[go_sem,seval,o,e2,W]
      all_goals (refine D21 e ?_;simp_all)
    rw[if_neg W]at h;repeat' (first|with_reducible apply D1Z|simp only[go_sem,seval,o,e2,o1,o2,o3,W]|intro m)
    all_goals (refine D21 e ?_;simp_all)
theorem C0v{Q}(f:Fm)(d:FmFit f)(H:Heap)(h:Q (.bool (j5 f 60)) H):D8 57 [.agg (B9 f),.int .i64 60] H Q:=C0u _ f (D1t _) d 60 (by decide) (by decide) H h
theorem B4T(n:Nat): ∀{Q} (f:Fm) (hn:SizeOf.sizeOf f≤n) (r:FmFit f) (hw:J5 f≤1000000) (H:Heap) (h:Q (.int .i64 (F4 f)) H),D8 58 [.agg (B9 f)] H Q:=by
 induction n with
 |zero=>intro Q f hn;cases f;simp at hn
 |succ n y=>
 intro Q f hn r hw H h;refine A8 [] A5 Tryz.func58 rfl ?_;simp only[go_sem,seval,Tryz.results58];have z:=r.kl;have A:=K5 f;intro q C;have e1:(H.set q (.box (B9 f))) q=some (.box (B9 f)):=A0 _ _;have o:H.Le (H.set q (.box (B9 f))):=A2 C;generalize H.set q (.box (B9 f))=Bs at e1 o⊢;repeat' (first|with_reducible apply D1Z|simp only[go_sem,seval,e1]|simp(disch:=omega) only[A4,A9,C3,A2w]|intro u|omega)
 refine C2 [7,8] (fun(p:Nat×Int)=>[(9,.int .i64 p.1),(3,.int .i64 p.2)]) (fun(p:Nat×Int)=>Bs) (fun(p:Nat×Int)=>p.1≤f.ks.length∧p.2=1+F4.nodesL (f.ks.take p.1)) (fun(p:Nat×Int)=>f.ks.length-p.1) ((0,1)) (⟨D1u _,rfl⟩) (by simp only[go_sem,seval]) (D20 _) ?_;rintro L rfl ⟨i,m⟩ ⟨G,g⟩;simp only at G g;by_cases d:i<f.ks.length
 ·have j:decide ((i:Int)<f.ks.length)=true:=D1b (by omega);have x:(i:Int)<f.ks.length:=by omega
  have hm:=D1n d;have w0:=C0P hm;have hs:=A2w f.ks i d;have hb:=B5G (f.ks.take i);have I:J5.wtL (f.ks.take i)≤J5.wtL f.ks:=by
   conv=>rhs;rw[←D2K i f.ks,A58]
   omega
  have J:=A2v f.ks[i];repeat' (first|with_reducible apply D1Z|simp only[go_sem,seval,j,x,A9 _ _ d,C0 _ _ d]|simp(disch:=omega) only[A4,A9,C3,A2w]|intro u|with_reducible refine y f.ks[i] (by have:=S3 hm;omega) (r.kid hm) (by omega) _ ?_|omega)
  exact C1 (i+1,m+F4 f.ks[i]) ⟨by simp only[];omega,by simp only[];rw[hs];push_cast;omega⟩ (by simp only[];omega) (by(try simp only[go_sem,seval])<;>(try simp(disch:=omega) [A4])) (by simp only[D7,C9,D0]at* <;>grind)
 ·have j:decide ((i:Int)<f.ks.length)=false:=D1c (by omega);have e:F4 f=1+F4.nodesL f.ks:=B5F f;rw[D1o (by omega)]at g;have e2:m=(F4 f:Int):=by rw[g,e];push_cast;rfl
  rw[←e2]at h;repeat' simp only[go_sem,seval,j]
  exact D21 o h
theorem B8Z(n:Nat): ∀{Q} (f:Fm) (hn:SizeOf.sizeOf f≤n) (A:FmFit f) (a b:List ByteArray) (hw:J5 f+a.length+b.length≤2000000) (H:Heap) (h:Q (.tuple [nsD ((D9 f).foldl G9 a),nsD ((C7 f).foldl G9 b)]) H),D8 48 [.agg (B9 f),nsD a,nsD b] H Q:=by
 induction n with
 |zero=>intro Q f hn;cases f;simp at hn
 |succ n O=>
 intro Q f hn A a b hw H h;refine A8 [(8,.wk)] A5 Tryz.func48 rfl ?_;simp only[go_sem,seval,Tryz.results48];have T:=A.kl;have U:=A.lin.len;have V:=K5 f;rw[B7P,B5H,D2R,D2R]at h;intro o W;have e3:(H.set o (.box (B9 f))) o=some (.box (B9 f)):=A0 _ _;have q:H.Le (H.set o (.box (B9 f))):=A2 W;generalize H.set o (.box (B9 f))=Bs at e3 q⊢;repeat' (first|with_reducible apply D1Z|simp only[go_sem,seval,e3]|simp(disch:=omega) only[A4,A9,A4y,C3,A0Y,i7]|intro u|omega)
 refine C2 [2,3,14,15] (fun(p:Nat×List ByteArray)=>[(16,.int .i64 p.1),(1,nsD p.2)]) (fun(p:Nat×List ByteArray)=>Bs) (fun(p:Nat×List ByteArray)=>p.1≤f.l.t.length∧p.2=((f.l.t.take p.1).map (·.v)).foldl G9 a) (fun(p:Nat×List ByteArray)=>f.l.t.length-p.1) ((0,a)) (⟨D1u _,rfl⟩) (by simp only[go_sem,seval]) (D20 _) ?_;rintro Ec rfl ⟨i,r⟩ ⟨X,hr⟩;simp only at X hr;by_cases m:i<f.l.t.length
 ·have g:decide ((i:Int)<f.l.t.length)=true:=D1b (by omega);have G:(i:Int)<f.l.t.length:=by omega
  have hb:=i8 ((f.l.t.take i).map (·.v)) a;rw[←hr,D2I,D2H]at hb;repeat' (first|with_reducible apply D1Z|simp only[go_sem,seval,g,G,A9 _ _ m,C0 _ _ m]|simp(disch:=omega) only[A4,A9,A4y,C3,A0Y,i7]|intro u|with_reducible refine B4G r (by omega) _ _ ?_|omega)
  exact C1 (i+1,G9 r f.l.t[i].v) ⟨by simp only[];omega,by simp only[];rw[D1s m,D2Z,D2R,←hr];rfl⟩ (by simp only[];omega) (by(try simp only[go_sem,seval])<;>(try simp(disch:=omega) [A4])) (by simp only[D7,C9,D0]at* <;>grind)
 ·have g:decide ((i:Int)<f.l.t.length)=false:=D1c (by omega);rw[D1o (by omega)]at hr;have hb:=i8 (f.l.t.map (·.v)) a;rw[←hr,D2I]at hb;rw[←hr]at h;obtain⟨c,hc⟩: ∃c,c=(if f.op=3 then [f.s]else []).foldl G9 b:=⟨_,rfl⟩
  rw[←hc]at h;have Y:c.length≤b.length+1:=by
   rw[hc];split
   ·exact A8O _ _
   ·simp
  apply I6 (C:=True)
  ·intro M;by_cases o3:f.op=3
   ·rw[if_pos o3]at hc;have hc:c=G9 b f.s:=hc;repeat' (first|simp only[go_sem,seval,g,e3,o3]|with_reducible refine B4G b (by omega) f.s _ ?_)
    rw[←hc];exact F2 [(1,nsD r),(2,nsD c),(3,.box o 0)] Bs (by simp only[go_sem,seval]) (D20 _) (M trivial)
   ·rw[if_neg o3]at hc;have hc:c=b:=hc;repeat' simp only[go_sem,seval,g,e3,o3]
    rw[←hc];exact F2 [(1,nsD r),(2,nsD c),(3,.box o 0)] Bs (by simp only[go_sem,seval]) (D20 _) (M trivial)
  intro _;repeat' simp only[go_sem,seval,e3]
  refine C2 [33,34] (fun(p:Nat×List ByteArray×List ByteArray)=>[(35,.int .i64 p.1),(1,nsD p.2.1),(2,nsD p.2.2)]) (fun(p:Nat×List ByteArray×List ByteArray)=>Bs) (fun(p:Nat×List ByteArray×List ByteArray)=>p.1≤f.ks.length∧p.2.1=(D9.intsL (f.ks.take p.1)).foldl G9 r∧p.2.2=(C7.boolsL (f.ks.take p.1)).foldl G9 c) (fun(p:Nat×List ByteArray×List ByteArray)=>f.ks.length-p.1) ((0,r,c)) (⟨D1u _,rfl,rfl⟩) (by simp only[go_sem,seval]) (D20 _) ?_;rintro a0 rfl ⟨j,x,y⟩ ⟨hj,hx,z⟩;simp only at hj hx z;by_cases d:j<f.ks.length
  ·have e:decide ((j:Int)<f.ks.length)=true:=D1b (by omega);have I:(j:Int)<f.ks.length:=by omega
   have hm:=D1n d;have J:=i8 (D9.intsL (f.ks.take j)) r;have L:=i8 (C7.boolsL (f.ks.take j)) c;rw[←hx]at J;rw[←z]at L;have a4:=B5J (f.ks.take j);have a5:J5.wtL f.ks=J5.wtL (f.ks.take j)+J5.wtL (f.ks.drop j):=by
    conv=>lhs;rw[←D2K j f.ks,A58]
   have a6:=A4y f.ks j d;repeat' (first|with_reducible apply D1Z|simp only[go_sem,seval,e,I,A9 _ _ d,C0 _ _ d]|simp(disch:=omega) only[A4,A9,A4y,C3,A0Y,i7]|intro u|with_reducible refine O f.ks[j] (by have:=S3 hm;omega) (A.kid hm) x y (by omega) _ ?_|omega)
   refine C1 (j+1,(D9 f.ks[j]).foldl G9 x,(C7 f.ks[j]).foldl G9 y) ⟨by simp only[];omega,?_,?_⟩ (by simp only[];omega) (by(try simp only[go_sem,seval])<;>(try simp(disch:=omega) [A4])) (by simp only[D7,C9,D0]at* <;>grind)
   ·simp only[];rw[A0Y _ _ d,D2R,←hx]
   ·simp only[];rw[i7 _ _ d,D2R,←z]
  ·have e:decide ((j:Int)<f.ks.length)=false:=D1c (by omega);rw[D1o (by omega)]at hx z;rw[←hx,←z]at h;repeat' simp only[go_sem,seval,e]
   exact D21 q h
theorem B8a{Q}(f:Fm)(g:FmFit f)(hw:J5 f≤1000000)(H:Heap)(h:Q (.tuple [.sl 1 (Rw L7 (ivF f)),.sl 1 (Rw L7 (bvF f))]) H):D8 48 [.agg (B9 f),.nilsl,.nilsl] H Q:=
 ACalls.fin (B8Z _ f (D1t _) g [] [] (by simp;omega) H (D4 (d':=.tuple [.sl 1 (Rw L7 (ivF f)),.sl 1 (Rw L7 (bvF f))]) (.tuple _ _ rfl fun i d d' h1 e=>(match i,h1,e with
  |0,h1,e=>by cases h1;cases e;exact A9b _
  |1,h1,e=>by cases h1;cases e;exact A9b _
  |i+2,h1,e=>by cases h1)) (D22 h)))
theorem C4h{Q}(l m:List ByteArray)(hl:l.length≤1000000000)(hm:m.length≤1000000000)(H:Heap)(h:Q (.bool (meetL l m)) H):D8 59 [.sl 1 (Rw L7 l),.sl 1 (Rw L7 m)] H Q:=by
 refine A8 [] A5 Tryz.func59 rfl ?_;simp only[go_sem,seval,Tryz.results59];repeat' (first|with_reducible apply D1Z|simp only[go_sem,seval]|simp(disch:=omega) only[A4,A9,C3]|intro M|omega)
 refine C2 [1,9,10] (fun(i:Nat)=>[(11,.int .i64 i)]) (fun(i:Nat)=>H) (fun(i:Nat)=>i≤l.length∧∀(j:Nat) (G:j<l.length),j<i→l[j]∉m) (fun(i:Nat)=>l.length-i) (0) (⟨D1u _,fun _ _ h=>absurd h (D2p _)⟩) (by simp only[go_sem,seval]) (D20 _) ?_;rintro V rfl i ⟨W,p⟩;by_cases r:i<l.length
 ·have u:decide ((i:Int)<l.length)=true:=D1b (by omega);have I:(i:Int)<l.length:=by omega
  repeat' (first|with_reducible apply D1Z|simp only[go_sem,seval,u,I,A9 _ _ r,C0 _ _ r]|omega)
  refine C2 [1,6,9,10,11,15,16] (fun(j:Nat)=>[(17,.int .i64 j)]) (fun(j:Nat)=>H) (fun(j:Nat)=>j≤m.length∧∀(k:Nat) (hk:k<m.length),k<j→m[k]≠l[i]) (fun(j:Nat)=>m.length-j) (0) (⟨D1u _,fun _ _ h=>absurd h (D2p _)⟩) (by simp only[go_sem,seval]) (D20 _) ?_;rintro O rfl j ⟨G,z⟩;by_cases o:j<m.length
  ·have d:decide ((j:Int)<m.length)=true:=D1b (by omega);have A:(j:Int)<m.length:=by omega
   by_cases q:l[i]=m[j]
   ·have J:decide (B l[i]=B m[j])=true:=D1b (by rw[q]);have y:meetL l m=true:=(A1G _ _).2 ⟨_,D1n r,q ▸ D1n o⟩;rw[y]at h;repeat' (first|with_reducible apply D1Z|simp only[go_sem,seval,d,A,A9 _ _ o,C0 _ _ o,J]|omega)
    exact D22 h
   ·have J:decide (B l[i]=B m[j])=false:=D1c fun e=>q (N7 e);repeat' (first|with_reducible apply D1Z|simp only[go_sem,seval,d,A,A9 _ _ o,C0 _ _ o,J]|simp(disch:=omega) only[A4,A9,C3]|omega)
    refine C1 (j+1) ⟨by omega,fun k hk T=>?_⟩ (by omega) (by(try simp only[go_sem,seval])<;>(try simp(disch:=omega) [A4])) (D20 _);rcases Nat.lt_or_ge k j with g|g
    ·exact z k hk g
    ·have:k=j:=by omega
     subst this;exact fun e=>q e.symm
  ·have d:decide ((j:Int)<m.length)=false:=D1c (by omega);repeat' (first|simp only[go_sem,seval,d]|simp(disch:=omega) only[A4,A9,C3])
   refine C1 (i+1) ⟨by omega,fun k hk U=>?_⟩ (by omega) (by(try simp only[go_sem,seval])<;>(try simp(disch:=omega) [A4])) (D20 _);rcases Nat.lt_or_ge k i with g|g
   ·exact p k hk g
   ·have:k=i:=by omega
    subst this;intro C;obtain⟨q,hq,e⟩:=List.getElem_of_mem C;exact z q hq (by omega) e
 ·have u:decide ((i:Int)<l.length)=false:=D1c (by omega);have y:meetL l m=false:=by
   rw[←D2v,A1G];rintro⟨x,hx,L⟩;obtain⟨j,G,rfl⟩:=List.getElem_of_mem hx;exact p j G (by omega) L
  rw[y]at h;repeat' simp only[go_sem,seval,u]
  exact D22 h
theorem B8b{Q}(f:Fm)(j:FmFit f)(x:VOk f)(H:Heap)(h:Q (.bool (E3 f)) H):D8 19 [.agg (B9 f)] H Q:=by
 refine A8 [] A5 Tryz.func19 rfl ?_;simp only[go_sem,seval,Tryz.results19];have o:E3 f=(j5 f 60&&decide (F4 f≤200)&& !meetL (ivF f) (bvF f)&&decide ((ivF f).length+(bvF f).length≤12)):=by
  rw[A1H];unfold j5;rw[show decide ((N4 f:Int)≤60)=decide (N4 f≤60)from D2C.2 (by omega)];cases G8 D5 f<;>cases decide (N4 f≤60)<;>rfl
 rw[o]at h;intro m h1;have e1:(H.set m (.box (B9 f))) m=some (.box (B9 f)):=A0 _ _;have d:H.Le (H.set m (.box (B9 f))):=A2 h1;generalize H.set m (.box (B9 f))=Bs at e1 d⊢;have e:=fun(Q:D→Heap→Prop) (H:Heap)=>C0v (Q:=Q) f j H;cases hs:j5 f 60 with
 |false=>
  rw[hs]at h e;simp only[Bool.false_and]at h;repeat' (first|simp only[go_sem,seval,e1]|with_reducible refine e _ _ ?_)
  exact D21 d h
 |true=>
  have i:G8 D5 f=true:=by unfold j5 at hs;rw[D1m]at hs;exact hs.2
  have hw:J5 f≤1000000:=by
   rcases x with g|g
   ·exact g
   ·rw[i]at g;cases g
  have y:=A2v f;have z:=A39 f;have A:(ivF f).length≤1000000:=by have:=i8 (D9 f) [];unfold ivF upS;simp at this;omega
  have C:(bvF f).length≤1000000:=by have:=i8 (C7 f) [];unfold bvF upS;simp at this;omega
  rw[hs]at h e;simp only[Bool.true_and]at h;have p:decide ((ivF f).length+(bvF f).length≤12)=decide (((ivF f).length:Int)+(bvF f).length≤12):=D2C.2 (by omega);rw[p]at h;by_cases q:F4 f≤200
  ·have r: ¬(200:Int)<F4 f:=by omega
   rw[D1b q]at h;simp only[Bool.true_and]at h;have u:=fun(Q:D→Heap→Prop) (H:Heap)=>C4h (Q:=Q) (ivF f) (bvF f) (by omega) (by omega) H;generalize meetL (ivF f) (bvF f)=I at h u;repeat' (first|with_reducible apply D1Z|simp only[go_sem,seval,e1,r]|simp(disch:=omega) only[A4,C3]|intro G|with_reducible refine e _ _ ?_|with_reducible refine B4T _ f (D1t _) j hw _ ?_|with_reducible refine B8a f j hw _ ?_|with_reducible refine u _ _ ?_)
   all_goals (refine D21 d ?_;simp_all)
  ·have r:(200:Int)<F4 f:=by omega
   rw[D1c q]at h;simp only[Bool.false_and]at h;repeat' (first|simp only[go_sem,seval,e1,r]|with_reducible refine e _ _ ?_|with_reducible refine B4T _ f (D1t _) j hw _ ?_)
   all_goals exact D21 d h
theorem C4i{x:ByteArray}{l:List UInt8}(h:B x=l):x=S l:=by rw[←h,S_B]
set_option maxHeartbeats 4000000 in
theorem C0w(n:Nat): ∀{Q} (f:Fm) (hn:SizeOf.sizeOf f≤n) (A:G8 D5 f=true) (C:FmFit f) (hw:J5 f≤1000000) (H:Heap) (h:Q (.str (S (C8 f))) H),D8 70 [.agg (B9 f)] H Q:=by
  induction n with
  |zero=>intro Q f hn;cases f;simp at hn
  |succ n ih=>
  intro Q f hn A C hw H h;refine A8 [] A5 Tryz.func70 rfl ?_;simp only[go_sem,seval,Tryz.results70];intro T g1;have e1:(H.set T (.box (B9 f))) T=some (.box (B9 f)):=A0 _ _;have e:H.Le (H.set T (.box (B9 f))):=A2 g1;generalize H.set T (.box (B9 f))=Bs at e1 e⊢;have g:=A2R f A;have G:=C.kl;rcases node_or A with⟨m,hm,rfl⟩|⟨l,hv,hp,rfl⟩|⟨s,hp,rfl⟩|⟨k,rfl⟩|⟨o,ks,ho,rfl⟩
  · rw[A8V rfl]at h
    simp only[Fm.n]at h;rcases hm with rfl|rfl
    · repeat' (first|with_reducible apply D1Z|simp only[go_sem,seval,e1])
      exact D21 e h
    · repeat' (first|with_reducible apply D1Z|simp only[go_sem,seval,e1])
      exact D21 e h
  · rw[A8W rfl]at h
    have tx:=fun(Q:D→Heap→Prop) (H:Heap)=>B4H (Q:=Q) l C.lin H;simp only[hv,if_true]at tx;repeat' (first|with_reducible apply D1Z|simp only[go_sem,seval,e1]|with_reducible refine tx _ _ ?_)
    exact D21 e h
  · rw[A8X rfl]at h g
    simp only[Fm.s,D1e]at h g;have b2:=M8 s;have V:S (63::B s)=(⟨#[63]⟩++s:ByteArray):=(C4i (by rw[M9];rfl)).symm;rw[V]at h;have W:(⟨#[63]⟩:ByteArray).size=1:=rfl;repeat' (first|with_reducible apply D1Z|simp only[go_sem,seval,e1,W]|omega)
    exact D21 e h
  · rw[A8Y rfl rfl]at h g
    have r0:(Rw B9 [k]).getD 0 []=B9 k:=rfl;have hsz:SizeOf.sizeOf k<SizeOf.sizeOf (Fm.mk 4 0 nilL D3 [k]):=S3 (f:=.mk 4 0 nilL D3 [k]) (D1k ..);have X:J5 (.mk 4 0 nilL D3 [k])=1+J5 k:=by rw[K5];simp[Fm.l,Fm.ks,nilL,J5.wtL]
    have V:S (33::C8 k)=(⟨#[33]⟩++S (C8 k):ByteArray):=(C4i (by rw[M9,Q7];rfl)).symm;rw[V]at h;have W:(⟨#[33]⟩:ByteArray).size=1:=rfl;have Y:(S (C8 k)).size=(C8 k).length:=J3 _;simp only[D1e]at g;have U: ∀{Q:D→Heap→Prop} (H:Heap),Q (.str (S (C8 k))) H→D8 70 [.agg (B9 k)] H Q:=fun H hq=>ih k (by omega) (N9 A (D1k ..)) (C.kid (D1k ..)) (by omega) H hq;repeat' (first|with_reducible apply D1Z|simp only[go_sem,seval,e1,r0,W]|with_reducible refine U _ ?_|omega)
    exact D21 e h
  · have u: ∀k∈ks,G8 D5 k=true:=fun k hk=>N9 (f:=.mk o 0 nilL D3 ks) A hk
    have a0: ∀k∈ks,FmFit k:=fun k hk=>C.kid hk;have G:ks.length≤1466015503658:=G;have X:J5 (.mk o 0 nilL D3 ks)=1+J5.wtL ks:=by rw[K5];simp[Fm.l,Fm.ks,nilL]
    have hsz: ∀k∈ks,SizeOf.sizeOf k<SizeOf.sizeOf (Fm.mk o 0 nilL D3 ks):=fun k hk=>S3 (f:=.mk o 0 nilL D3 ks) hk;obtain⟨r,j⟩: ∃r:ByteArray,r=if o=6 then⟨#[124,40]⟩else⟨#[38,40]⟩:=⟨_,rfl⟩
    have a4:C8 (.mk o 0 nilL D3 ks)=B r++(C8.textK true ks++[41]):=by
      rcases ho with rfl|rfl
      · rw[A1x (by simp[Fm.op]) (by simp[Fm.op]) (by simp[Fm.op]) (by simp[Fm.op]),j];rfl
      · rw[A1x (by simp[Fm.op]) (by simp[Fm.op]) (by simp[Fm.op]) (by simp[Fm.op]),j];rfl
    rw[a4]at h g;have a9:r.size=2:=by rw[j];split<;>rfl
    have b3:=M8 r;have I:B (⟨#[41]⟩:ByteArray)= [41]:=rfl;have J:B (⟨#[44,32]⟩:ByteArray)= [44,32]:=rfl;have L:(⟨#[41]⟩:ByteArray).size=1:=rfl;have M:(⟨#[44,32]⟩:ByteArray).size=2:=rfl;rcases ho with rfl|rfl
    all_goals
      (simp only[Int.reduceEq,if_true,if_false]at j
       repeat' (first|with_reducible apply D1Z|simp only[go_sem,seval,e1,←j])
       refine C2 [41,42] (fun(p:Nat×ByteArray)=>[(43,.int .i64 p.1),(5,.str p.2)]) (fun(p:Nat×ByteArray)=>Bs) (fun(p:Nat×ByteArray)=>p.1≤ks.length∧B p.2=B r++C8.textK true (ks.take p.1)) (fun(p:Nat×ByteArray)=>ks.length-p.1) ((0,r)) (⟨D1u _,by simp[C8.textK]⟩) (by simp only[go_sem,seval]) (D20 _) ?_;rintro Ec rfl ⟨i,y⟩ ⟨hi,z⟩;simp only at hi z
       have a5:y.size≤2+400*J5.wtL (ks.take i):=by
         have:=A2S ks i u;have h2:=M8 y;rw[z,D1f]at h2;omega
       by_cases d:i<ks.length
       · have q:decide ((i:Int)<ks.length)=true:=D1b (by omega)
         have O:(i:Int)<ks.length:=by omega
         have hm:=D1n d;have b4:=R7 ks i d;have b0:=A2R ks[i] (u _ hm);have Y:(S (C8 ks[i])).size=(C8 ks[i]).length:=J3 _;have U: ∀{Q:D→Heap→Prop} (H:Heap),Q (.str (S (C8 ks[i]))) H→D8 70 [.agg (B9 ks[i])] H Q:=fun H hq=>ih ks[i] (by have:=hsz _ hm;omega) (u _ hm) (a0 _ hm) (by omega) H hq;by_cases h0:i=0
         · have x: ¬(0:Int)<i:=by omega
           repeat' (first|with_reducible apply D1Z|simp only[go_sem,seval,q,O,x,A9 _ _ d,C0 _ _ d]|simp(disch:=omega) only[A4,A9,Y0,R7,C3]|intro a6|with_reducible refine U _ ?_|omega)
           exact C1 (i+1,y++S (C8 ks[i])) ⟨by simp only[];omega,by simp only[];rw[M9,Q7,z,Y0 _ _ d,if_pos h0];simp⟩ (by simp only[];omega) (by(try simp only[go_sem,seval])<;>(try simp(disch:=omega) [A4])) (by simp only[D7,C9,D0]at* <;>grind)
         · have x:(0:Int)<i:=by omega
           repeat' (first|with_reducible apply D1Z|simp only[go_sem,seval,q,O,x,M,A9 _ _ d,C0 _ _ d]|simp(disch:=omega) only[A4,A9,Y0,R7,C3]|intro a6|with_reducible refine U _ ?_|omega)
           exact C1 (i+1,y++⟨#[44,32]⟩++S (C8 ks[i])) ⟨by simp only[];omega,by simp only[];rw[M9,M9,Q7,J,z,Y0 _ _ d,if_neg h0];simp⟩ (by simp only[];omega) (by(try simp only[go_sem,seval])<;>(try simp(disch:=omega) [A4])) (by simp only[D7,C9,D0]at* <;>grind)
       · have q:decide ((i:Int)<ks.length)=false:=D1c (by omega)
         rw[D1o (by omega)]at z a5;have he:y++⟨#[41]⟩=S (B r++(C8.textK true ks++[41])):=C4i (by rw[M9,z,I,D2N]);rw[←he]at h;repeat' (first|with_reducible apply D1Z|simp only[go_sem,seval,q,L]|omega)
         exact D21 e h)
theorem B1p{Q}(f:Fm)(i:FmFit f)(j:VOk f)(H:Heap)(h:Q (.tuple [.str (if E3 f=true then S (C8 f)else S []),.int .i64 (if E3 f=true then 0 else 2)]) H):D8 28 [.agg (B9 f)] H Q:=by
 refine A8 [] A5 Tryz.func28 rfl ?_;simp only[go_sem,seval,Tryz.results28];intro e m;have e1:(H.set e (.box (B9 f))) e=some (.box (B9 f)):=A0 _ _;have d:H.Le (H.set e (.box (B9 f))):=A2 m;generalize H.set e (.box (B9 f))=Bs at e1 d⊢;have g:=fun(Q:D→Heap→Prop) (H:Heap)=>B8b (Q:=Q) f i j H;cases hv:E3 f with
 |false=>
  rw[hv]at h g;simp only[D1p,if_false]at h;repeat' (first|simp only[go_sem,seval,e1]|with_reducible refine g _ _ ?_)
  exact D21 d h
 |true=>
  rw[hv]at h g;simp only[if_true]at h;have o:=A7K hv;have p:=fun(Q:D→Heap→Prop) (H:Heap)=>C0w (Q:=Q) _ f (D1t _) (M5 hv) i (by omega) H;repeat' (first|simp only[go_sem,seval,e1]|with_reducible refine g _ _ ?_|with_reducible refine p _ _ ?_)
  exact D21 d h
end Go.Proofs.YtibphjonmikciaaGreatDoor
namespace Go.Fo
open Go Go.Av Go.Lexs Go.Lin
structure RdS(H H':Heap)(br:Nat)(r:List UInt8)(bad:Bool):Prop where
 here:H' br=some (.box [.str (S r),.bool bad])
 els: ∀k,k≠br→H' k=H k
theorem RdS.set(H:Heap)(br:Nat)(r:List UInt8)(bad:Bool):RdS H (H.set br (.box [.str (S r),.bool bad])) br r bad:=⟨A0 _ _,fun _ hk=>A3 _ hk⟩
theorem RdS.trans{H e i:Heap}{br:Nat}{r j:List UInt8}{bad d:Bool}(h:RdS H e br r bad)(g:RdS e i br j d):RdS H i br j d:=⟨g.here,fun k hk=>(g.els k hk).trans (h.els k hk)⟩
theorem RdS.keep{H H':Heap}{br b:Nat}{r:List UInt8}{bad:Bool}(h:RdS H H' br r bad){o:Av.Obj}(hb:H b=some o)(d:b≠br):H' b=some o:=by rw[h.els b d];exact hb
theorem RdS.le{G H H':Heap}{br:Nat}{r:List UInt8}{bad:Bool}(h:RdS H H' br r bad)(d:G.Le H)(g:G br=none):G.Le H':=fun k o hk=>by
 rw[h.els k (fun e=>by rw[e,g]at hk;cases hk)];exact d k o hk
def tillI(r:List UInt8):Int:=Lib.indexAny r [44,41]
theorem tillI_spec: ∀r:List UInt8,(tillI r= -1∧E8 r=r∧Q6 r= [])∨(0≤tillI r∧tillI r≤r.length∧E8 r=r.take (tillI r).toNat∧Q6 r=r.drop (tillI r).toNat):=by
 intro r
 induction r with
 |nil=>exact .inl ⟨rfl,rfl,rfl⟩
 |cons c r o=>
  have e:tillI (c::r)=if [44,41].contains c=true then 0 else if(tillI r== -1)=true then-1 else tillI r+1:=rfl
  have hs: [44,41].contains c=A8Z c:=by
   unfold A8Z;simp only[List.contains_cons,List.contains_nil,Bool.or_false]
  rw[e,hs];cases hc:A8Z c with
  |true=>
   right
   have hn:nst c=false:=by unfold nst;rw[hc];rfl
   have d:E8 (c::r)= []:=by unfold E8;rw[List.takeWhile_cons,hn];rfl
   have g:Q6 (c::r)=c::r:=by unfold Q6;rw[List.dropWhile_cons,hn];rfl
   rw[d,g];exact⟨Int.le_refl _,by simp only[if_true];omega,rfl,rfl⟩
  |false=>
   have hn:nst c=true:=by unfold nst;rw[hc];rfl
   have d:E8 (c::r)=c::E8 r:=by unfold E8;rw[List.takeWhile_cons,hn];rfl
   have g:Q6 (c::r)=Q6 r:=by unfold Q6;rw[List.dropWhile_cons,hn];rfl
   rw[d,g];simp only[D1p,if_false];rcases o with⟨h1,m,h⟩|⟨h1,m,h,p⟩
   ·left
    rw[h1,m,h];simp
   ·right
    have i:(tillI r== -1)=false:=by rw[beq_eq_false_iff_ne];omega
    have j:(tillI r+1).toNat=(tillI r).toNat+1:=by omega
    rw[i];simp only[D1p,if_false];rw[j,List.take_succ_cons,List.drop_succ_cons,←h,←p];refine⟨by omega,by simp only[D1e];omega,rfl,rfl⟩
end Go.Fo
namespace Go.Proofs.YtibphjonmikciaaGreatDoor
open Go Go.Av Go.Lexs Go.Lin Go.Fo
attribute [local irreducible] ACalls Q4
open Go.RowKit in
theorem B1q{Q}(s p:ByteArray)(H:Heap)(h:Q (.tuple [.str (S (if pre (B p) (B s)=true then(B s).drop p.size else B s)),.bool (pre (B p) (B s))]) H):D8 145 [.str s,.str p] H Q:=
 H7 (by kernel_rfl) (fun w vs hl hr hs=>by
  obtain⟨a,b,rfl,j,hb⟩:=m0 hl hr;rw[j.str_inv,hb.str_inv];refine(Tryz.strings_CutPrefix s p w).mono fun e w' ⟨he,hw⟩=>?_;subst hw;have e1:Lib.hasPrefix s.data.toList p.data.toList=pre (B p) (B s):=rfl;have e2:Lib.trimPrefix s.data.toList p.data.toList=if pre (B p) (B s)=true then(B s).drop p.size else B s:=by
   have:=M8 p;rw[←this];rfl
  rw[e1,e2]at he;exact⟨_,he,Below.refl _ _,.tuple _ _ rfl fun i d g=>(match i,g with|0,g=>by simp at g;subst g;exact .str _|1,g=>by simp at g;subst g;exact .bool _|i+2,g=>by simp at g)⟩) h
def A5B(r:List UInt8):Prop:=∀(Q:D→Heap→Prop) (H:Heap),Q (.int .i64 (tillI r)) H→D8 146 [.str (S r),.str ⟨#[44,41]⟩] H Q
open Go.RowKit in
theorem B3I{r:List UInt8}(hr:r.length≤1000000)(m: ∀c∈r,c.toNat<128):A5B r:=fun Q H h=>
 H7 (by kernel_rfl) (fun w vs hl g o=>by
  obtain⟨a,b,rfl,i,hb⟩:=m0 hl g;rw[i.str_inv,hb.str_inv];refine(Tryz.strings_IndexAny_laid (S r) ⟨#[44,41]⟩ w (by rw[J3];omega) (by decide) (fun j b d=>m b (D16 (by rw[show (S r).data.toList=r from Q7 r]at d;exact d))) (fun j b d=>by
   have hm:=D16 d;have key: ∀c∈(⟨#[44,41]⟩:ByteArray).data.toList,c.toNat<128:=by decide
   exact key b hm)).mono fun e w' ⟨he,hw⟩=>?_
  refine⟨_,he,hw,?_⟩;rw[show (S r).data.toList=r from Q7 r];exact .int _ _) h
theorem A3c{Q}(br:Nat)(p:ByteArray)(r:List UInt8)(bad:Bool)(H:Heap)(hb:H br=some (.box [.str (S r),.bool bad]))(h: ∀H',RdS H H' br (if pre (B p) r=true then r.drop p.size else r) bad→Q (.bool (pre (B p) r)) H'):D8 117 [.box br 0,.str p] H Q:=by
 refine A8 [] A5 Tryz.func117 rfl ?_;simp only[go_sem,seval,Tryz.results117];have d:=fun(Q:D→Heap→Prop) (H:Heap)=>B1q (Q:=Q) (S r) p H;rw[Q7]at d;repeat' (first|simp only[go_sem,seval,hb]|with_reducible refine d _ _ ?_)
 exact D22 (h _ (RdS.set _ _ _ _))
theorem B4U{Q}(br:Nat)(r:List UInt8)(bad:Bool)(hr:r.length≤1000000)(hx:A5B r)(H:Heap)(hb:H br=some (.box [.str (S r),.bool bad]))(h: ∀H',RdS H H' br (Q6 r) bad→Q (.str (S (E8 r))) H'):D8 118 [.box br 0] H Q:=by
 refine A8 [] A5 Tryz.func118 rfl ?_;simp only[go_sem,seval,Tryz.results118];have hsz:=J3 r;rcases tillI_spec r with⟨h1,g,i⟩|⟨h1,g,i,j⟩
 ·have e:=hx;unfold A5B at e;rw[h1]at e;rw[g,i]at h;have m:S (r.take r.length)=S r:=by rw[List.take_length]
  have o:S (r.drop r.length)=S []:=by rw[List.drop_length]
  repeat' (first|with_reducible apply D1Z|simp only[go_sem,seval,hb,hsz]|with_reducible refine e _ _ ?_|omega)
  simp only[m,o];exact D22 (h _ (RdS.set _ _ _ _))
 ·have e:=hx;unfold A5B at e;have d: ¬tillI r<0:=by omega
  rw[i,j]at h;generalize tillI r=z at h1 g h e d;repeat' (first|with_reducible apply D1Z|simp only[go_sem,seval,hb,hsz,d]|with_reducible refine e _ _ ?_|omega)
  exact D22 (h _ (RdS.set _ _ _ _))
end Go.Proofs.YtibphjonmikciaaGreatDoor
namespace Go.Fo
open Go Go.Av Go.Lexs Go.Lin
theorem A7N(w:List UInt8):S7 (K2 w).1∧(K2 w).1.t.length≤12:=by
 rw[B1h];split
 ·rename_i h;have ok:=K7 h.1;refine⟨⟨by have:=ok.len;simp only[];omega,fun t d=>?_,fun t d=>?_,?_⟩,ok.len⟩
  ·have:=A3X (N0 ok.t t d).1;omega
  ·have:=(N0 ok.t t d).2.2;unfold S8;omega
  ·have:=ok.k;unfold S8;simp only[];omega
 ·exact⟨A1o,by simp[nilL]⟩
structure Sz(f:Fm)(m:Nat):Prop where
 fit:FmFit f
 wt:J5 f≤m
structure SzL(l:List Fm)(m:Nat):Prop where
 fit: ∀f∈l,FmFit f
 wt:J5.wtL l≤m
theorem A1s:Sz Q5 1:=⟨T9 (by simp[S8]) (by simp) (by simp),by decide⟩
theorem A2z{o:Int}{l:List Fm}{m:Nat}(ho:S8 o)(h:SzL l m)(hm:m≤1000000):Sz (.mk o 0 nilL D3 l) (1+m):=
 ⟨T9 ho (by have:=C0O l;have:=h.wt;omega) h.fit,by rw[K5];simp[Fm.l,Fm.ks,nilL];exact h.wt⟩
theorem B8c{f:Fm}{m:Nat}(h:Sz f m):SzL [f] m:=⟨fun k hk=>by rw[D10]at hk;rw[hk];exact h.fit,by simp[J5.wtL];exact h.wt⟩
theorem A4K{l:List Fm}{f:Fm}{m n:Nat}(hl:SzL l m)(h:Sz f n):SzL (l++[f]) (m+n):=⟨fun k hk=>by
 rcases D1z.1 hk with g|g
 ·exact hl.fit k g
 ·rw[D10]at g;rw[g];exact h.fit,by rw[A58];simp only[J5.wtL];have:=hl.wt;have:=h.wt;omega⟩
theorem A3d(m:Nat):SzL [] m:=⟨by simp,by simp[J5.wtL]⟩
theorem Sz.le{f:Fm}{m n:Nat}(h:Sz f m)(hm:m≤n):Sz f n:=⟨h.fit,D2f h.wt hm⟩
theorem SzL.le{f:List Fm}{m n:Nat}(h:SzL f m)(hm:m≤n):SzL f n:=⟨h.fit,D2f h.wt hm⟩
theorem A9p(n:Int)(h:S8 n):Sz (.mk 1 n nilL D3 []) 1:=⟨.mk _ _ _ _ _ (by simp[S8]) h A1o (by decide) (by simp) (by simp),by rw[K5];simp[Fm.l,Fm.ks,nilL,J5.wtL]⟩
theorem B8d(s:ByteArray)(h:s.size≤1000000):Sz (.mk 3 0 nilL s []) 1:=⟨.mk _ _ _ _ _ (by simp[S8]) (by simp[S8]) A1o (by omega) (by simp) (by simp),by rw[K5];simp[Fm.l,Fm.ks,nilL,J5.wtL]⟩
theorem B8e(w:List UInt8):Sz (A24 (K2 w).1) 13:=⟨A2O (A7N w).1,by have:=(A7N w).2;rw[K5];simp[Fm.l,Fm.ks,A24,J5.wtL];omega⟩
theorem A2T(r:List UInt8):(E8 r).length+(Q6 r).length=r.length:=by
 unfold E8 Q6;rw[←D1f,List.takeWhile_append_dropWhile]
theorem A0m{p r:List UInt8}(h:pre p r=true):p.length≤r.length:=by
 unfold pre at h;exact(List.isPrefixOf_iff_prefix.1 h).length_le
theorem C0x(w:List UInt8):Sz (A7j w).1 13:=by
 unfold A7j;split
 ·exact(A9p 1 (by simp[S8])).le (by omega)
 ·split
  ·exact(A9p 0 (by simp[S8])).le (by omega)
  ·exact B8e w
def C4j(form:List UInt8→Fm×List UInt8×Bool):Prop:=∀r:List UInt8,r.length≤20000→(form r).2.1.length≤r.length∧Sz (form r).1 (14*(r.length-(form r).2.1.length)+13)
theorem B8f{d:List UInt8→Fm×List UInt8×Bool}(g:C4j d): ∀(n:Nat) (r:List UInt8) (out:List Fm) (m:Nat),r.length≤20000→SzL out m→(A1K d n r out).2.1.length≤r.length∧SzL (A1K d n r out).1 (m+14*(r.length-(A1K d n r out).2.1.length)):=by
 intro n
 induction n with
 |zero=>intro r out m hr hm;exact⟨D1t _,A3d _⟩
 |succ n j=>
  intro r out m hr hm;obtain⟨h1,e⟩:=g r hr;rw[A1K];split
  ·rename_i h;have:=A0m h;simp only[D1e,D1g]at this;simp only[D17];exact⟨by omega,(A4K hm e).le (by omega)⟩
  ·split
   ·exact⟨h1,A3d _⟩
   ·split
    ·rename_i h;have:=A0m h;simp only[D1e,D1g]at this;have i:=j ((d r).2.1.drop 2) _ _ (by rw[D17];omega) (A4K hm e);rw[D17]at i;exact⟨by omega,i.2.le (by omega)⟩
    ·exact⟨h1,A3d _⟩
theorem B1r{d:List UInt8→Fm×List UInt8×Bool}(e:C4j d)(r:List UInt8)(hr:r.length≤20000):(Z2 d r).2.1.length≤r.length∧SzL (Z2 d r).1 (14*(r.length-(Z2 d r).2.1.length)):=by
 unfold Z2;split
 ·simp only[D17];exact⟨by omega,A3d _⟩
 ·have:=B8f e (r.length+1) r [] 0 hr (A3d _);rw[Nat.zero_add]at this;exact this
theorem A7O: ∀e,C4j (G6 e):=by
 intro e
 induction e with
 |zero=>intro r hr;exact⟨D1t _,A1s.le (by omega)⟩
 |succ e d=>
  intro r hr;rw[G6];split
  ·rename_i h;have:=A0m h;have t:=A2T (r.drop 1);rw[D17]at t;simp only[D1e,D1g]at this;exact⟨by simp only[];omega,(B8d _ (by rw[J3];omega)).le (by omega)⟩
  ·split
   ·rename_i h;have:=A0m h;simp only[D1e,D1g]at this;have i:=d (r.drop 1) (by rw[D17];omega);rw[D17]at i;exact⟨by simp only[];omega,(A2z (by simp[S8]) (B8c i.2) (by omega)).le (by simp only[];omega)⟩
   ·split
    ·rename_i h;have:=A0m h;simp only[D1e,D1g]at this;have i:=B1r d (r.drop 2) (by rw[D17];omega);rw[D17]at i;exact⟨by simp only[];omega,(A2z (by simp[S8]) i.2 (by omega)).le (by simp only[];omega)⟩
    ·split
     ·rename_i h;have:=A0m h;simp only[D1e,D1g]at this;have i:=B1r d (r.drop 2) (by rw[D17];omega);rw[D17]at i;exact⟨by simp only[];omega,(A2z (by simp[S8]) i.2 (by omega)).le (by simp only[];omega)⟩
     ·have t:=A2T r;exact⟨by simp only[];omega,(C0x _).le (by omega)⟩
theorem C4k{f:Fm}{m:Nat}(h:Sz f m)(hm:1≤m)(s:List UInt8):Sz (okF f s).1 m:=by
 unfold okF;split
 ·exact h
 ·exact A1s.le hm
theorem B5k(s:List UInt8):Sz (parseF s).1 300000:=by
 unfold parseF;split
 ·exact A1s.le (by omega)
 ·rename_i hl;split
  ·exact A1s.le (by omega)
  ·exact C4k ((A7O 60 s (by omega)).2.le (by omega)) (by omega) s
def C70(form:List UInt8→Fm×Nat):Prop:=∀r:List UInt8,r.length≤20000→(form r).2≤r.length∧Sz (form r).1 (14*(form r).2+13)
theorem B8g{d:List UInt8→Fm×Nat}(j:C70 d)(s:List UInt8)(hs:s.length≤20000): ∀(n k:Nat) (out:List Fm) (m:Nat),k≤s.length→SzL out m→k≤(Y1 d s n k out).2∧(Y1 d s n k out).2≤s.length∧SzL (Y1 d s n k out).1 (m+14*((Y1 d s n k out).2-k)+13):=by
 intro n
 induction n with
 |zero=>intro k out m hk hm;exact⟨hk,D1t _,hm.le (by omega)⟩
 |succ n o=>
  intro k out m hk hm;obtain⟨h1,e⟩:=j (s.drop k) (by rw[D17];omega);rw[D17]at h1;rw[Y1];split
  ·rename_i h;split
   ·rename_i g;have i:=o (k+(d (s.drop k)).2+2) _ _ (by omega) (A4K hm e);exact⟨by omega,i.2.1,i.2.2.le (by omega)⟩
   ·split
    ·rename_i g;exact⟨by simp only[];omega,D1t _,(A4K hm e).le (by simp only[];omega)⟩
    ·exact⟨by simp only[];omega,by simp only[];omega,(A4K hm e).le (by simp only[];omega)⟩
  ·exact⟨by simp only[];omega,by simp only[];omega,hm.le (by omega)⟩
theorem C0y(s:List UInt8)(hs:s.length≤20000):(A7k s).2≤s.length∧Sz (A7k s).1 13:=by
 have t:=A2T s;unfold A7k;split
 ·rename_i h;exact⟨by rw[h]at t;simp only[j0,D1e,D1g]at t⊢;omega,(A9p 1 (by simp[S8])).le (by omega)⟩
 ·split
  ·rename_i h;exact⟨by rw[h]at t;simp only[flsB,D1e,D1g]at t⊢;omega,(A9p 0 (by simp[S8])).le (by omega)⟩
  ·split
   ·exact⟨by simp only[];omega,(B8d _ (by rw[J3,D17];omega)).le (by omega)⟩
   ·split
    ·exact⟨by simp only[];omega,B8e _⟩
    ·exact⟨D1t _,A1s.le (by omega)⟩
theorem B1s: ∀e,C70 (J1 e):=by
 intro e
 induction e with
 |zero=>intro r hr;exact⟨D1t _,A1s.le (by omega)⟩
 |succ e d=>
  intro r hr;rw[J1];split
  ·exact⟨D1u _,A1s.le (by omega)⟩
  ·split
   ·rename_i h;have:=A0m h;simp only[D1e,D1g]at this;have i:=d (r.drop 1) (by rw[D17];omega);rw[D17]at i;exact⟨by simp only[];omega,(A2z (by simp[S8]) (B8c i.2) (by omega)).le (by simp only[];omega)⟩
   ·split
    ·rename_i j _ _;have hp:0<r.length:=List.length_pos_iff.2 j;by_cases g:r.length=1
     ·have e:Y1 (J1 e) r (r.length+1) (min 2 r.length) []=([],1):=by
       rw[show min 2 r.length=1 by omega,Y1,if_neg (by omega),g];rfl
      rw[e];exact⟨by simp only[];omega,(A2z (by split<;>simp[S8]) (A3d 0) (by omega)).le (by simp only[];omega)⟩
     ·have i:=B8g d r hr (r.length+1) (min 2 r.length) [] 0 (by omega) (A3d _);have m:=i.1;have o:=i.2.1;exact⟨i.2.1,(A2z (by split<;>simp[S8]) (i.2.2) (by omega)).le (by simp only[];omega)⟩
    ·have:=C0y r hr;exact⟨this.1,this.2.le (by omega)⟩
theorem RdS.out{H d G:Heap}{br sz:Nat}{es:List (List D)}{ob:Option Nat}{r:List UInt8}{bad:Bool}{rd:List D}(h:RdS H d br r bad)(g:G br=none)(hb:H br=some (.box rd))(q:OutIn G sz es ob H):OutIn G sz es ob d:=by
 refine⟨h.le q.1 g,?_,q.2.2⟩;cases ob with
 |none=>exact q.2.1
 |some c=>
  have hc:H c=some (.vec sz es):=q.2.1;exact h.keep hc fun e=>by rw[e,hb]at hc;cases hc
theorem B8h{G d:Heap}{br x h sz:Nat}{ob:Option Nat}{es:List (List D)}{c rd:List D}{o:Av.Obj}(q:OutIn G sz es ob d)(g:d br=some (.box rd))(hx:d x=none)(r:G h=none)(i:L5 (d.set x o) ob h=none):
  ((L5 (d.set x o) ob).set h (.vec sz (es++[c]))) br=some (.box rd)∧OutIn G sz (es++[c]) (some h) ((L5 (d.set x o) ob).set h (.vec sz (es++[c]))):=by
 have u:=q.set hx o;have j:br≠x:=fun e=>by rw[←e,g]at hx;cases hx
 have h1:L5 (d.set x o) ob br=some (.box rd):=by
  cases ob with
  |none=>show (d.set x o) br=_;rw[A3 _ j];exact g
  |some c=>
   have hc:d c=some (.vec sz es):=q.2.1;have:br≠c:=fun e=>by rw[←e,g]at hc;cases hc
   show (Heap.del _ c) br=_;rw[F1 this,A3 _ j];exact g
 have m:br≠h:=fun e=>by rw[←e,h1]at i;cases i
 refine⟨by rw[A3 _ m];exact h1,fun k p hk=>?_,A0 _ _,fun b e=>by cases e;exact r⟩;have:k≠h:=fun e=>by rw[e,r]at hk;cases hk
 rw[A3 _ this];exact u.le k p hk
theorem B1t{H Hp:Heap}{br sz:Nat}{es:List (List D)}{ob:Option Nat}{r:List UInt8}{bad:Bool}(q:OutIn (H.del br) sz es ob Hp)(h:Hp br=some (.box [.str (S r),.bool bad])):(H.set br (.box [.str (S r),.bool bad])).Le (L5 Hp ob):=fun k o hk=>by
 by_cases e:k=br
 ·subst e;rw[A0]at hk;cases ob with
  |none=>show Hp k=_;rw[h];exact hk
  |some c=>
   have hc:Hp c=some (.vec sz es):=q.2.1;have:k≠c:=fun e=>by rw[←e,h]at hc;cases hc
   show (Heap.del _ c) k=_;rw[F1 this,h];exact hk
 ·rw[A3 _ e]at hk;exact q.le k o (by rw[F1 e];exact hk)
theorem B5l{H Hp:Heap}{br sz:Nat}{es:List (List D)}{ob:Option Nat}{r:List UInt8}{bad:Bool}(q:OutIn (H.del br) sz es ob Hp)(h:Hp br=some (.box [.str (S r),.bool bad])):(H.set br (.box [.str (S r),.bool bad])).Le Hp:=(B1t q h).trans (B99 _ _)
end Go.Fo
namespace Go.Proofs.YtibphjonmikciaaGreatDoor
open Go Go.Av Go.Lexs Go.Lin Go.Fo
attribute [local irreducible] ACalls Q4
theorem Tabs.hro{H H':Heap}(d:Tabs H)(h: ∀k cs,H k=some (.ro cs)→H' k=some (.ro cs)):Tabs H':=⟨h _ _ d.pow,let ⟨t,e⟩:=d.syn;⟨t,h _ _ e⟩,let ⟨t,e⟩:=d.rng;⟨t,h _ _ e⟩⟩
theorem Tabs.rd{H Hp:Heap}{br:Nat}{rd:List D}(g:Tabs H)(hb:H br=some (.box rd))(d:(H.del br).Le Hp):Tabs Hp:=g.hro fun k cs hk=>d k _ (by
 have h:k≠br:=fun e=>by rw[e,hb]at hk;cases hk
 rw[F1 h];exact hk)
def A8c(e:Nat):Prop:=∀(Q:D→Heap→Prop) (br:Nat) (r:List UInt8),r.length≤20000→(∀k,A5B (r.drop k))→∀(H:Heap),Tabs H→H br=some (.box [.str (S r),.bool false])→(∀H',RdS H H' br (G6 e r).2.1 (G6 e r).2.2→Q (.agg (B9 (G6 e r).1)) H')→D8 71 [.box br 0,.int .i64 (61-e)] H Q
theorem A20{r:List UInt8}(hx: ∀k,A5B (r.drop k))(j:Nat): ∀k,A5B ((r.drop j).drop k):=fun k=>by rw[D2j];exact hx _
set_option maxHeartbeats 4000000 in
theorem B8i(e:Nat)(he:e≤60)(hF:A8c e){Q}(br:Nat)(q:List UInt8)(b0:q.length≤20000)(b2: ∀k,A5B (q.drop k))(H:Heap)(hT:Tabs H)(hb:H br=some (.box [.str (S q),.bool false]))
  (X: ∀r,r.length≤20000→∃j,(G6 e r).2.1=r.drop j)
  (h: ∀H',RdS H H' br (Z2 (G6 e) q).2.1 (Z2 (G6 e) q).2.2→Q (.sl 7 (Rw B9 (Z2 (G6 e) q).1)) H'):D8 119 [.box br 0,.int .i64 (61-e)] H Q:=by
 refine A8 [] A5 Tryz.func119 rfl ?_;simp only[go_sem,seval,Tryz.results119];have i:B (⟨#[41]⟩:ByteArray)= [41]:=rfl;have C:B (⟨#[44,32]⟩:ByteArray)= [44,32]:=rfl;have G:(⟨#[41]⟩:ByteArray).size=1:=rfl;have Y:(⟨#[44,32]⟩:ByteArray).size=2:=rfl;refine A3c br ⟨#[41]⟩ q false H hb fun H1 I=>?_;rw[i,G]at I;unfold Z2 at h;rw[i];cases hp:pre [41] q with
 |true=>
  rw[hp]at h I;simp only[if_true]at h I;repeat' simp only[go_sem,seval]
  exact D4 (.nil 7) (D22 (h _ I))
 |false=>
  rw[hp]at h I;simp only[D1p,if_false]at h I;obtain⟨fin,J⟩: ∃fin,fin=A1K (G6 e) (q.length+1) q []:=⟨_,rfl⟩
  rw[←J]at h;repeat' simp only[go_sem,seval]
  refine C2 [0,1] (fun(p:(List UInt8×List Fm×Bool)×Option Nat×Heap)=>[(5,J8 7 p.1.2.1.length p.2.1)]) (fun(p:(List UInt8×List Fm×Bool)×Option Nat×Heap)=>p.2.2) (fun(p:(List UInt8×List Fm×Bool)×Option Nat×Heap)=>p.2.2 br=some (.box [.str (S p.1.1),.bool p.1.2.2])∧OutIn (H.del br) 7 (Rw B9 p.1.2.1) p.2.1 p.2.2∧(∃j,p.1.1=q.drop j)∧(p.1.2.2=true→fin=([],p.1.1,true))∧(p.1.2.2=false→p.1.2.1.length+p.1.1.length≤20000∧∃n,p.1.1.length+1≤n∧A1K (G6 e) n p.1.1 p.1.2.1=fin)) (fun(p:(List UInt8×List Fm×Bool)×Option Nat×Heap)=>(if p.1.2.2=true then 0 else p.1.1.length+1)) (((q,[],false),none,H1)) (⟨I.here,⟨fun k o hk=>by
    have k1:k≠br:=fun e=>by rw[e]at hk;simp[Heap.del]at hk
    show H1 k=some o;rw[I.els k k1];rw[F1 k1]at hk;exact hk,rfl,fun _ e=>(by cases e)⟩,⟨0,rfl⟩,fun e=>(by cases e),fun _=>⟨by simpa using b0,_,D1t _,J.symm⟩⟩) (by simp only[go_sem,seval]) (D20 _) ?_
  rintro Ec rfl ⟨⟨r,out,bad⟩,ob,Hp⟩ ⟨W,q2,⟨j,q3⟩,q4,q5⟩;simp only at W q2 q3 q4 q5;cases bad with
  |true=>
   rw[q4 rfl]at h;repeat' simp only[go_sem,seval,W]
   exact D4 (.nil 7) (D21 (B5l q2 W) (h _ (RdS.set _ _ _ _)))
  |false=>
   obtain⟨c2,n,hn,hl⟩:=q5 rfl;obtain⟨n,rfl⟩: ∃m,n=m+1:=⟨n-1,by omega⟩
   rw[A1K]at hl;have L:r.length≤20000:=by omega
   obtain⟨hsz,_⟩:=A7O e r L;obtain⟨j2,M⟩:=X r L;have b3:Tabs Hp:=hT.rd hb q2.1;have b4: ∀k,A5B (r.drop k):=by rw[q3];exact A20 b2 j
   have hG:(H.del br) br=none:=by simp[Heap.del]
   repeat' simp only[go_sem,seval,W]
   refine hF _ br r L b4 Hp b3 W fun H2 s2=>?_;obtain⟨⟨f1,y,b1⟩,b6⟩: ∃x,x=G6 e r:=⟨_,rfl⟩
   rw[←b6]at hl s2 hsz M⊢;simp only at hl s2 hsz M;have a0:=s2.out hG W q2;have b7:=s2.here;repeat' (first|simp only[go_sem,seval]|intro a4)
   rename_i x;have hx:=a4;clear a4;refine B6o (a0.set hx _) (by simp) (by rw[D6]) (by simp only[D1e,D1g];omega) (by simp only[D1e,D1g];omega) fun b' b8 a5 b9=>?_;obtain⟨z,O⟩:=B8h (c:=B9 f1) a0 b7 hx b8 a5;have c0:Rw B9 out++[B9 f1]=Rw B9 (out++[f1]):=by simp[Rw]
   rw[c0]at z O⊢;clear a5 b9;generalize (L5 (H2.set x _) ob).set b' (.vec 7 (Rw B9 (out++[f1])))=Hn at z O⊢;repeat' simp only[go_sem,seval]
   refine A3c br ⟨#[41]⟩ y b1 Hn z fun H3 T=>?_;rw[i,G]at T;rw[i];have A:=T.out hG z O;have d:=T.here;cases a6:pre [41] y with
   |true=>
    rw[a6]at hl T d;simp only[if_true]at hl T d;rw[←hl]at h;repeat' simp only[go_sem,seval]
    exact Fin.out (ob:=some b') (es:=Rw B9 (out++[f1])) (by rw[D6];simp) A.2.1 (D21 (B1t A d) (h _ (RdS.set _ _ _ _)))
   |false=>
    rw[a6]at hl T d;simp only[D1p,if_false]at hl T d;have u: ∃k,y=q.drop k:=⟨j+j2,by rw[M,q3,D2j]⟩
    cases b1 with
    |true=>
     simp only[if_true]at hl;repeat' simp only[go_sem,seval,d]
     refine C1 ((y,out++[f1],true),some b',H3) ⟨d,A,u,fun _=>hl.symm,fun e=>(by cases e)⟩ (by simp only[if_true,D1p,if_false];omega) (by simp only[go_sem,seval,D1f,D1e,D1g]) ?_;rw[B4Q d];exact D20 _
    |false=>
     simp only[D1p,if_false]at hl;repeat' simp only[go_sem,seval,d]
     refine A3c br ⟨#[44,32]⟩ y false H3 d fun H4 U=>?_;rw[C,Y]at U;rw[C];have a9:=U.out hG d A;have g:=U.here;cases V:pre [44,32] y with
     |true=>
      rw[V]at hl U g;simp only[if_true]at hl U g;obtain⟨k3,u⟩:=u;have c1:=A0m V;simp only[D1e,D1g]at c1;repeat' simp only[go_sem,seval,g]
      refine C1 ((y.drop 2,out++[f1],false),some b',H4) ⟨g,a9,⟨k3+2,by rw[u,D2j]⟩,fun e=>(by cases e),fun _=>⟨by simp only[D1f,D1e,D1g,D17];omega,n,by simp only[D17];omega,hl⟩⟩ (by simp only[D1p,if_false,D17];omega) (by simp only[go_sem,seval,D1f,D1e,D1g]) ?_;rw[B4Q g];exact D20 _
     |false=>
      rw[V]at hl U g;simp only[D1p,if_false]at hl U g;repeat' simp only[go_sem,seval,g]
      exact C1 ((y,out++[f1],true),some b',H4.set br (.box [.str (S y),.bool true])) ⟨A0 _ _,(RdS.set H4 br y true).out hG g a9,u,fun _=>hl.symm,fun e=>(by cases e)⟩ (by simp only[if_true,D1p,if_false];omega) (by simp only[go_sem,seval,D1f,D1e,D1g]) (D20 _)
end Go.Proofs.YtibphjonmikciaaGreatDoor
namespace Go.Fo
open Go Go.Av Go.Lexs Go.Lin
theorem RdS.same{H H':Heap}{br:Nat}{r:List UInt8}{bad:Bool}(h:RdS H H' br r bad)(hb:H br=some (.box [.str (S r),.bool bad])):H'=H:=by
 funext k
 by_cases e:k=br
 ·rw[e,h.here,hb]
 ·exact h.els k e
theorem A1t{H i H':Heap}{br d:Nat}{r:List UInt8}{bad:Bool}(s:RdS i H' br r bad)(g:(H.del br).Le i)(j:H d=none)(h:br≠d)(V:Av.Obj):(H.set br (.box [.str (S r),.bool bad])).Le (H'.set d V):=fun k o hk=>by
 by_cases e:k=br
 ·subst e;rw[A0]at hk;rw[A3 _ h,s.here];exact hk
 ·rw[A3 _ e]at hk;have m:k≠d:=fun e=>by rw[e,j]at hk;cases hk
  rw[A3 _ m,s.els k e];exact g k o (by rw[F1 e];exact hk)
theorem C0z{H i H':Heap}{br g x:Nat}{r:List UInt8}{bad:Bool}(s:RdS i H' br r bad)(d:(H.del br).Le i)(p:H g=none)(h:br≠g)(hx:H' x=none)(o1 V:Av.Obj):(H.set br (.box [.str (S r),.bool bad])).Le (((H'.set x o1).set g V).del x):=fun k o hk=>by
 have h1:=A1t s d p h V k o hk;have j:k≠x:=fun e=>by
  by_cases e2:k=br
  ·rw[←e,e2,s.here]at hx;cases hx
  ·rw[A3 _ e2]at hk;have:=d k o (by rw[F1 e2];exact hk);rw[←s.els k e2,e,hx]at this;cases this
 rw[F1 j];by_cases m:k=g
 ·subst m;rw[A0]at h1⊢;exact h1
 ·rw[A3 _ m]at h1⊢;rw[A3 _ j];exact h1
theorem A8d(r:List UInt8):Q6 r=r.drop (E8 r).length:=by
 have h:E8 r++Q6 r=r:=List.takeWhile_append_dropWhile
 conv=>rhs;rw[←h]
 rw[List.drop_left' (by rw[h])]
theorem B5m{d:List UInt8→Fm×List UInt8×Bool}(g: ∀r,∃j,(d r).2.1=r.drop j): ∀n r out,∃j,(A1K d n r out).2.1=r.drop j:=by
 intro n
 induction n with
 |zero=>intro r out;exact⟨0,rfl⟩
 |succ n h=>
  intro r out;obtain⟨j,e⟩:=g r;rw[A1K];split
  ·exact⟨j+1,by show (d r).2.1.drop 1=_;rw[e,D2j]⟩
  ·split
   ·exact⟨j,e⟩
   ·split
    ·obtain⟨k,hk⟩:=h ((d r).2.1.drop 2) (out++[(d r).1]);exact⟨j+(2+k),by rw[hk,e,D2j,D2j]⟩
    ·exact⟨j,e⟩
theorem B5n: ∀e r,∃j,(G6 e r).2.1=r.drop j:=by
 intro e
 induction e with
 |zero=>intro r;exact⟨0,rfl⟩
 |succ e g=>
  intro r;have hl: ∀k,∃j,(Z2 (G6 e) (r.drop k)).2.1=r.drop j:=fun k=>by
   unfold Z2;split
   ·exact⟨k+1,by show (r.drop k).drop 1=_;rw[D2j]⟩
   ·obtain⟨j,d⟩:=B5m g ((r.drop k).length+1) (r.drop k) [];exact⟨k+j,by rw[d,D2j]⟩
  rw[G6];split
  ·exact⟨1+(E8 (r.drop 1)).length,by show Q6 (r.drop 1)=_;rw[A8d,D2j]⟩
  ·split
   ·obtain⟨j,d⟩:=g (r.drop 1);exact⟨1+j,by show (G6 e (r.drop 1)).2.1=_;rw[d,D2j]⟩
   ·split
    ·exact hl 2
    ·split
     ·exact hl 2
     ·exact⟨_,A8d r⟩
end Go.Fo
namespace Go.Proofs.YtibphjonmikciaaGreatDoor
open Go Go.Av Go.Lexs Go.Lin Go.Fo
attribute [local irreducible] ACalls Q4
theorem A5C(w:List UInt8)(l:List UInt8):(S w=⟨l.toArray⟩)=(w=l):=propext ⟨fun h=>C6e h,fun h=>by rw[h];rfl⟩
theorem C4l:A8c 0:=by
 intro Q br r hr hx H u hb h;have p:((61:Int)-(0:Nat))=61:=by omega
 rw[p];refine A8 [] A5 Tryz.func71 rfl ?_;simp only[go_sem,seval,Tryz.results71];intro g j;have i:br≠g:=fun e=>by rw[←e,hb]at j;cases j
 have m:(H.set g (.box [.int .i64 0,.int .i64 0,.nilsl,.int .i64 0,.bool false,.str ⟨#[]⟩,.nilsl])) br=some (.box [.str (S r),.bool false]):=by rw[A3 _ i];exact hb
 have o:(H.set g (.box [.int .i64 0,.int .i64 0,.nilsl,.int .i64 0,.bool false,.str ⟨#[]⟩,.nilsl])) g=some (.box [.int .i64 0,.int .i64 0,.nilsl,.int .i64 0,.bool false,.str ⟨#[]⟩,.nilsl]):=A0 _ _;have d:(H.del br).Le (H.set g (.box [.int .i64 0,.int .i64 0,.nilsl,.int .i64 0,.bool false,.str ⟨#[]⟩,.nilsl])):=(E5 _ _).trans (A2 j);generalize H.set g (.box [.int .i64 0,.int .i64 0,.nilsl,.int .i64 0,.bool false,.str ⟨#[]⟩,.nilsl])=Bs at m o d⊢;have q:(Bs.set br (.box [.str (S r),.bool true])) g=some (.box [.int .i64 0,.int .i64 0,.nilsl,.int .i64 0,.bool false,.str ⟨#[]⟩,.nilsl]):=by rw[A3 _ i.symm];exact o
 repeat' simp only[go_sem,seval,m,q]
 exact D4 (A1q 0 0 0 false D3) (D21 (A1t (RdS.set Bs br r true) d j i _) (h _ (RdS.set _ _ _ _)))
set_option maxHeartbeats 4000000 in
theorem C4m(e:Nat)(he:e+1≤60)(hF:A8c e):A8c (e+1):=by
 intro Q br r hr hx H hT hb h;obtain⟨dp,c0⟩: ∃dp:Int,dp=61-((e+1:Nat):Int):=⟨_,rfl⟩
 have c7:1≤dp:=by omega
 have c8:dp≤60:=by omega
 have T:IntKind.i64.wrap (dp+1)=61-(e:Int):=by rw[A4 (by omega) (by omega)];omega
 rw[←c0];refine A8 [] A5 Tryz.func71 rfl ?_;simp only[go_sem,seval,Tryz.results71];intro m y;have d:br≠m:=fun e=>by rw[←e,hb]at y;cases y
 obtain⟨Z,hZ⟩: ∃Z:List D,Z= [.int .i64 0,.int .i64 0,.nilsl,.int .i64 0,.bool false,.str ⟨#[]⟩,.nilsl]:=⟨_,rfl⟩
 rw[←hZ];have e4:(H.set m (.box Z)) m=some (.box Z):=A0 _ _;have z:(H.set m (.box Z)) br=some (.box [.str (S r),.bool false]):=by rw[A3 _ d];exact hb
 have a4:H.Le (H.set m (.box Z)):=A2 y;have g:(H.del br).Le (H.set m (.box Z)):=(E5 _ _).trans a4;generalize H.set m (.box Z)=Bs at e4 z a4 g⊢;have U:(H.del br) br=none:=by simp[Heap.del]
 have tb: ∀{Hx:Heap} {r':List UInt8} {bd:Bool},RdS Bs Hx br r' bd→Tabs Hx:=fun s=>hT.rd hb (s.le g U);have a5:B (⟨#[63]⟩:ByteArray)= [63]:=rfl;have a6:B (⟨#[33]⟩:ByteArray)= [33]:=rfl;have a9:B (⟨#[38,40]⟩:ByteArray)= [38,40]:=rfl;have M:B (⟨#[124,40]⟩:ByteArray)= [124,40]:=rfl;have c1:(⟨#[63]⟩:ByteArray).size=1:=rfl;have c2:(⟨#[33]⟩:ByteArray).size=1:=rfl;have c3:(⟨#[38,40]⟩:ByteArray).size=2:=rfl;have b0:(⟨#[124,40]⟩:ByteArray).size=2:=rfl;have c4: ¬60<dp:=by omega
 have O:=fun(r:List UInt8) (_:r.length≤20000)=>B5n e r;rw[G6]at h;repeat' (first|with_reducible apply D1Z|simp only[go_sem,seval,z,c4])
 refine A3c br ⟨#[63]⟩ r false Bs z fun H1 G=>?_;rw[a5,c1]at G;rw[a5];cases p1:pre [63] r with
 |true=>
  rw[p1]at h G;simp only[if_true]at h G;repeat' simp only[go_sem,seval]
  refine B4U br (r.drop 1) false (by rw[D17];omega) (hx 1) H1 G.here fun H2 p=>?_;have b1:=G.trans p;have i:=b1.keep e4 d.symm;rw[hZ]at i;repeat' simp only[go_sem,seval,i]
  exact D4 (A1q 3 0 0 false _) (D21 (A1t b1 g y d _) (h _ (RdS.set _ _ _ _)))
 |false=>
  rw[p1]at h G;simp only[D1p,if_false]at h G;have hs:=G.same z;subst hs;clear G;repeat' simp only[go_sem,seval]
  refine A3c br ⟨#[33]⟩ r false _ z fun H2 p=>?_;rw[a6,c2]at p;rw[a6];cases p2:pre [33] r with
  |true=>
   rw[p2]at h p;simp only[if_true]at h p;repeat' simp only[go_sem,seval,T]
   refine hF _ br (r.drop 1) (by rw[D17];omega) (A20 hx 1) H2 (tb p) p.here fun H3 q=>?_;have b2:=p.trans q;have i:=b2.keep e4 d.symm;rw[hZ]at i;repeat' (first|simp only[go_sem,seval,i]|simp(disch:=first|omega|grind) only[B3]|intro j)
   rename_i x;have V:=j;clear j;refine A9i (ob:=some x) (ks:=[(G6 e (r.drop 1)).1]) rfl (?_:(Heap.set _ m _) x=_) (D21 (C0z b2 g y d V _ _) (h _ (RdS.set _ _ _ _)));have c5:x≠m:=fun e=>by rw[e,i]at V;cases V
   rw[A3 _ c5];exact A0 _ _
  |false=>
   rw[p2]at h p;simp only[D1p,if_false]at h p;have hs:=p.same z;subst hs;clear p;repeat' simp only[go_sem,seval]
   refine A3c br ⟨#[38,40]⟩ r false _ z fun H3 q=>?_;rw[a9,c3]at q;rw[a9];cases p3:pre [38,40] r with
   |true=>
    rw[p3]at h q;simp only[if_true]at h q;repeat' simp only[go_sem,seval,T]
    refine B8i e (by omega) hF br (r.drop 2) (by rw[D17];omega) (A20 hx 2) H3 (tb q) q.here O fun H4 u=>?_;have b3:=q.trans u;have i:=b3.keep e4 d.symm;rw[hZ]at i;repeat' simp only[go_sem,seval,i]
    exact D4 (B28 5 0 0 false D3 _) (D21 (A1t b3 g y d _) (h _ (RdS.set _ _ _ _)))
   |false=>
    rw[p3]at h q;simp only[D1p,if_false]at h q;have hs:=q.same z;subst hs;clear q;repeat' simp only[go_sem,seval]
    refine A3c br ⟨#[124,40]⟩ r false _ z fun H4 u=>?_;rw[M,b0]at u;rw[M];cases p4:pre [124,40] r with
    |true=>
     rw[p4]at h u;simp only[if_true]at h u;repeat' simp only[go_sem,seval,T]
     refine B8i e (by omega) hF br (r.drop 2) (by rw[D17];omega) (A20 hx 2) H4 (tb u) u.here O fun H5 C=>?_;have b7:=u.trans C;have i:=b7.keep e4 d.symm;rw[hZ]at i;repeat' simp only[go_sem,seval,i]
     exact D4 (B28 6 0 0 false D3 _) (D21 (A1t b7 g y d _) (h _ (RdS.set _ _ _ _)))
    |false=>
     rw[p4]at h u;simp only[D1p,if_false]at h u;have hs:=u.same z;subst hs;clear u;repeat' simp only[go_sem,seval]
     have b8:=hx 0;rw[List.drop_zero]at b8;refine B4U br r false (by omega) b8 _ z fun H5 C=>?_;have i:=C.keep e4 d.symm;rw[hZ]at i;have c9:=A2T r;unfold A7j at h;by_cases w1:E8 r=j0
     ·rw[if_pos w1]at h;have I:E8 r= [116,114,117,101]:=w1;repeat' simp only[go_sem,seval,i,A5C,I]
      exact D4 (A1q 1 1 0 false D3) (D21 (A1t C g y d _) (h _ (RdS.set _ _ _ _)))
     ·rw[if_neg w1]at h;have I: ¬E8 r= [116,114,117,101]:=w1;by_cases w2:E8 r=flsB
      ·rw[if_pos w2]at h;have J:E8 r= [102,97,108,115,101]:=w2;have c6: ¬([102,97,108,115,101]:List UInt8)= [116,114,117,101]:=by decide
       repeat' simp only[go_sem,seval,i,A5C,J,c6]
       exact D4 (A1q 1 0 0 false D3) (D21 (A1t C g y d _) (h _ (RdS.set _ _ _ _)))
      ·rw[if_neg w2]at h;have J: ¬E8 r= [102,97,108,115,101]:=w2;obtain⟨⟨L,er⟩,b9⟩: ∃x,x=K2 (E8 r):=⟨_,rfl⟩
       have pc:=fun(Q:D→Heap→Prop) (H:Heap) (hT:Tabs H)=>C0f (Q:=Q) (S (E8 r)) (by rw[J3];omega) H hT;rw[Q7,←b9]at pc;rw[←b9]at h;simp only at h pc;have r5:=C.here;by_cases e0:er=0
       ·have W:decide (er≠0)=false:=by simp[e0]
        rw[W]at h;repeat' (first|simp only[go_sem,seval,i,A5C,I,J,r5,e0]|simp(disch:=first|omega|grind) only[B3]|intro j|with_reducible refine pc _ _ (tb C) ?_)
        rename_i b6;have X:=j;clear j;have Y:m≠b6:=fun e=>by rw[←e,i]at X;cases X
        have s6:=RdS.set (H5.set b6 (.box [.sl 2 (Rw P2 L.t),.int .i64 L.k,.bool L.e])) br (Q6 r) false;have a0:=s6.keep (b:=m) (by rw[A3 _ Y];exact i) d.symm;have A:=(C.le g U).trans (A2 (o:=.box [.sl 2 (Rw P2 L.t),.int .i64 L.k,.bool L.e]) X);repeat' (first|simp only[go_sem,seval,a0]|with_reducible refine A5A L _ ?_)
        exact D21 (A1t s6 A y d _) (h _ (RdS.set _ _ _ _))
       ·have W:decide (er≠0)=true:=by simp[e0]
        rw[W]at h;repeat' (first|simp only[go_sem,seval,i,A5C,I,J,r5,e0]|simp(disch:=first|omega|grind) only[B3]|intro j|with_reducible refine pc _ _ (tb C) ?_)
        rename_i b6;have X:=j;clear j;have Y:m≠b6:=fun e=>by rw[←e,i]at X;cases X
        have s6:=RdS.set (H5.set b6 (.box [.sl 2 (Rw P2 L.t),.int .i64 L.k,.bool L.e])) br (Q6 r) true;have a0:=s6.keep (b:=m) (by rw[A3 _ Y];exact i) d.symm;have A:=(C.le g U).trans (A2 (o:=.box [.sl 2 (Rw P2 L.t),.int .i64 L.k,.bool L.e]) X);repeat' (first|simp only[go_sem,seval,a0]|with_reducible refine A5A L _ ?_)
        exact D21 (A1t s6 A y d _) (h _ (RdS.set _ _ _ _))
theorem C4n: ∀e,e≤60→A8c e:=by
 intro e
 induction e with
 |zero=>intro _;exact C4l
 |succ e d=>intro he;exact C4m e he (d (by omega))
theorem U3(n:Int):NilR (.tuple [.agg [.int .i64 0,.int .i64 0,.nilsl,.int .i64 0,.bool false,.str ⟨#[]⟩,.nilsl],.int .i64 n]) (.tuple [.agg (B9 Q5),.int .i64 n]):=B1i (A1q 0 0 0 false D3)
theorem A7P{Q}(s:ByteArray)(hx:s.size≤20000→∀k,A5B ((B s).drop k))(H:Heap)(p:Tabs H)(h:Q (.tuple [.agg (B9 (parseF (B s)).1),.int .i64 (parseF (B s)).2]) H):D8 29 [.str s] H Q:=by
 refine A8 [] A5 Tryz.func29 rfl ?_;simp only[go_sem,seval,Tryz.results29];have a0:=M8 s;intro o q;obtain⟨Z,r⟩: ∃Z:List D,Z= [.int .i64 0,.int .i64 0,.nilsl,.int .i64 0,.bool false,.str ⟨#[]⟩,.nilsl]:=⟨_,rfl⟩
 rw[←r];have e2:(H.set o (.box Z)) o=some (.box Z):=A0 _ _;have i:H.Le (H.set o (.box Z)):=A2 q;generalize H.set o (.box Z)=Bs at e2 i⊢;have a4:=p.le i;unfold parseF at h;by_cases hl:(B s).length > 20000
 ·rw[if_pos hl]at h;have T:(20000:Int)<s.size:=by omega
  subst r;repeat' (first|with_reducible apply D1Z|simp only[go_sem,seval,T,e2])
  exact D4 (U3 3) (D21 (by first|exact i|exact F3 i q) h)
 ·rw[if_neg hl]at h;have T: ¬(20000:Int)<s.size:=by omega
  have U:=C4n 60 (by omega);unfold A8c at U;rw[show ((61:Int)-(60:Nat))=1 by omega]at U;have hsz:=(A7O 60 (B s) (by omega))
  repeat' (first|with_reducible apply D1Z|simp only[go_sem,seval,T]|intro j)
  rename_i br;have hr:=j;clear j;have Y:(Bs.set br (.box [.str s,.bool false])) br=some (.box [.str (S (B s)),.bool false]):=by rw[A0,S_B]
  have nr:o≠br:=fun e=>by rw[←e,e2]at hr;cases hr
  have m:H.Le (Bs.set br (.box [.str s,.bool false])):=i.trans (A2 hr);have C:(Bs.set br (.box [.str s,.bool false])) o=some (.box Z):=by rw[A3 _ nr];exact e2
  have V:H br=none:=i.none hr;generalize Bs.set br (.box [.str s,.bool false])=Cs at Y C m⊢;refine U _ br (B s) (by omega) (hx (by omega)) _ (p.le m) Y fun G I=>?_;obtain⟨⟨f1,r1,bad⟩,W⟩: ∃x,x=G6 60 (B s):=⟨_,rfl⟩
  rw[←W]at h hsz I⊢;simp only at h hsz I⊢;have J:=I.keep C nr;have L:=I.le m V;have g:=I.here;repeat' (first|simp only[go_sem,seval]|simp(disch:=first|omega|grind) only[B3]|intro j)
  rename_i b5;have h5:=j;clear j;have n5:br≠b5∧o≠b5:=⟨fun e=>(by rw[←e,g]at h5;cases h5),fun e=>(by rw[←e,J]at h5;cases h5)⟩
  have M:(G.set b5 (.box (B9 f1))) b5=some (.box (B9 f1)):=A0 _ _;have u:(G.set b5 (.box (B9 f1))) br=some (.box [.str (S r1),.bool bad]):=by rw[A3 _ n5.1];exact g
  have A:(G.set b5 (.box (B9 f1))) o=some (.box Z):=by rw[A3 _ n5.2];exact J
  have d:H.Le (G.set b5 (.box (B9 f1))):=L.trans (A2 h5);generalize G.set b5 (.box (B9 f1))=Ds at M u A d⊢;cases bad with
  |true=>
   simp only[true_or,if_true]at h;subst r;repeat' simp only[go_sem,seval,g,u,A]
   exact D4 (U3 30) (D21 (by first|exact d|exact F3 d q) h)
  |false=>
   by_cases y:r1= []
   ·rw[y]at h u g;simp only[D1p,ne_eq,not_true,or_self,if_false]at h;unfold okF at h;have fo:=hsz.2.fit;have vo:VOk f1:=.inl (by have:=hsz.2.wt;omega);have z:=fun(Q:D→Heap→Prop) (H:Heap) (p:Tabs H)=>A6H (Q:=Q) f1 fo vo H p;have X:S []=⟨#[]⟩:=rfl;cases hv:E3 f1 with
    |false=>
     rw[hv]at h z;simp only[D1p,false_and,if_false]at h z;subst r;repeat' (first|simp only[go_sem,seval,g,u,A,M,X]|with_reducible refine z _ _ (p.le d) ?_)
     exact D4 (U3 30) (D21 (by first|exact d|exact F3 d q) h)
    |true=>
     rw[hv]at h z;simp only[true_and,if_true]at h z;by_cases O:C8 f1=B s
     ·rw[if_pos O]at h;subst r;repeat' (first|simp only[go_sem,seval,g,u,A,M,X,O]|with_reducible refine z _ _ (p.le d) ?_)
      exact D21 (F3 d q) h
     ·rw[if_neg O]at h;subst r;repeat' (first|simp only[go_sem,seval,g,u,A,M,X,O]|with_reducible refine z _ _ (p.le d) ?_)
      exact D4 (U3 30) (D21 (by first|exact d|exact F3 d q) h)
   ·rw[if_pos (.inr y)]at h;subst r;repeat' simp only[go_sem,seval,g,u,A,y]
    exact D4 (U3 30) (D21 (by first|exact d|exact F3 d q) h)
end Go.Proofs.YtibphjonmikciaaGreatDoor
namespace Go.Fo
open Go Go.Av Go.Lexs Go.Lin
def A2U(o:Int)(l:List Fm):Fm×Int:=
 if l.all E3=true then(if meetL (D9.intsL l) (C7.boolsL l)=true then(Q5,15)else if E3 (.mk o 0 nilL D3 l)=true then(.mk o 0 nilL D3 l,0)else(Q5,3))else(Q5,2)
theorem B8j(l:List Fm)(p:Fm→Bool):(l.any fun f=> !p f)= !l.all p:=by
 induction l with
 |nil=>rfl
 |cons x l d=>rw[D2e,D2c,d,Bool.not_and]
theorem A4L{Q:D→Heap→Prop}{H:Heap}{n:Nat}{ob:Option Nat}{o m k x:Int}{e:Bool}{s:ByteArray}{ks:List Fm}(hn:n=ks.length)(ho:OutAt H 7 (Rw B9 ks) ob)(h:Fin Q (.tuple [.agg (B9 (.mk o m ⟨[],k,e⟩ s ks)),.int .i64 x]) (L5 H ob)):
  Fin Q (.tuple [.agg [.int .i64 o,.int .i64 m,.nilsl,.int .i64 k,.bool e,.str s,J8 7 n ob],.int .i64 x]) H:=by
 rw[u0]at h;cases ob with
 |none=>
  have d:Rw B9 ks= []:=ho;refine D4 ?_ h;rw[d];exact B1i (B27 (.nil 2) (.nil 7))
 |some b=>
  have hb:H b=some (.vec 7 (Rw B9 ks)):=ho;subst hn;refine A5l (cs':=[.int .i64 o,.int .i64 m,.sl 2 [],.int .i64 k,.bool e,.str s,.sl 7 (Rw B9 ks)]) hb rfl (fz7 (.nil 2) ?_) h;show Fz b 7 (Rw B9 ks) (.vec b 7 0 ks.length) _;have:=Fz.all (b:=b) (sz:=7) (es:=Rw B9 ks);rwa [D6]at this
end Go.Fo
namespace Go.Proofs.YtibphjonmikciaaGreatDoor
open Go Go.Av Go.Lexs Go.Lin Go.Fo
attribute [local irreducible] ACalls Q4
theorem C00{Q}(f:Fm)(g:FmFit f)(i:VOk f)(H:Heap)(h:Q (.bool (!E3 f)) H):D8 113 [.agg (B9 f)] H Q:=by
 refine A8 [] A5 Tryz.func113 rfl ?_;simp only[go_sem,seval,Tryz.results113];intro e h1;have e1:(H.set e (.box (B9 f))) e=some (.box (B9 f)):=A0 _ _;have d:H.Le (H.set e (.box (B9 f))):=A2 h1;generalize H.set e (.box (B9 f))=Bs at e1 d⊢;repeat' (first|simp only[go_sem,seval,e1]|with_reducible refine S4 f g i _ ?_)
 exact D21 d h
theorem B8k{Q}(o:Int)(ho:o=5∨o=6)(l:List Fm)(fl: ∀f∈l,FmFit f)(hlen:l.length≤1466015503658)(vl: ∀f∈l,VOk f)(hw:l.all E3=true→J5.wtL l≤900000)(H:Heap)(h:Q (.tuple [.agg (B9 (A2U o l).1),.int .i64 (A2U o l).2]) H):D8 67 [.int .i64 o,.sl 7 (Rw B9 l)] H Q:=by
 refine A8 [(9,.par)] A5 Tryz.func67 rfl ?_;simp only[go_sem,seval,Tryz.results67];intro y g4;obtain⟨Z,U⟩: ∃Z:List D,Z= [.int .i64 0,.int .i64 0,.nilsl,.int .i64 0,.bool false,.str ⟨#[]⟩,.nilsl]:=⟨_,rfl⟩
 rw[←U];have M:(H.set y (.box Z)) y=some (.box Z):=A0 _ _;have z:H.Le (H.set y (.box Z)):=A2 g4;generalize H.set y (.box Z)=Bs at M z⊢;have V: ∀x,H.Le (Bs.set y x):=fun x=>F3 z g4;have T:=fun(Q:D→Heap→Prop) (H:Heap)=>A9j (Q:=Q) (fun f=> !E3 f) l (by omega) 113 [] [] H (fun k hk _ Q hq=>C00 l[k] (fl _ (D1n hk)) (vl _ (D1n hk)) H hq);rw[B8j]at T;unfold A2U at h;cases hv:l.all E3 with
 |false=>
  rw[hv]at h T;simp only[D1p,if_false]at h;rw[U]at M;repeat' (first|simp only[go_sem,seval,M]|with_reducible refine T _ _ ?_)
  exact D4 (A7M 2) (D21 (V _) h)
 |true=>
  rw[hv]at h T;simp only[if_true]at h;have hw:=hw hv;have nc:=fun(Q:D→Heap→Prop) (H:Heap)=>A9l (Q:=Q) l fl hlen H;have W:=fun(Q:D→Heap→Prop) (H:Heap)=>B3F (Q:=Q) (K1 (D9.intsL l)) (K1 (C7.boolsL l)) H;rw[A1m (l':=D9.intsL l) (m':=C7.boolsL l) (fun x=>G4 _ _) (fun x=>G4 _ _)]at W;cases hm:meetL (D9.intsL l) (C7.boolsL l)with
  |true=>
   rw[hm]at h W;simp only[if_true]at h;rw[U]at M;repeat' (first|simp only[go_sem,seval,M]|with_reducible refine T _ _ ?_|with_reducible refine nc _ _ ?_|with_reducible refine W _ _ ?_)
   exact D4 (A7M 15) (D21 (V _) h)
  |false=>
   rw[hm]at h W;simp only[D1p,if_false]at h;repeat' (first|simp only[go_sem,seval]|(intro g;try simp only[A6]at g)|with_reducible refine T _ _ ?_|with_reducible refine nc _ _ ?_|with_reducible refine W _ _ ?_)
   rename_i r;have h6:=g;clear g;have X:y≠r:=fun e=>by rw[←e,M]at h6;cases h6
   have c6:(Bs.set r (.box [.int .i64 o,.int .i64 0,.nilsl,.int .i64 0,.bool false,.str ⟨#[]⟩,.nilsl])) r=some (.box [.int .i64 o,.int .i64 0,.nilsl,.int .i64 0,.bool false,.str ⟨#[]⟩,.nilsl]):=A0 _ _;have c4:(Bs.set r (.box [.int .i64 o,.int .i64 0,.nilsl,.int .i64 0,.bool false,.str ⟨#[]⟩,.nilsl])) y=some (.box Z):=by rw[A3 _ X];exact M
   have u:H.Le (Bs.set r (.box [.int .i64 o,.int .i64 0,.nilsl,.int .i64 0,.bool false,.str ⟨#[]⟩,.nilsl])):=z.trans (A2 h6);have Y:H r=none:=z.none h6;generalize Bs.set r (.box [.int .i64 o,.int .i64 0,.nilsl,.int .i64 0,.bool false,.str ⟨#[]⟩,.nilsl])=Cs at c6 c4 u⊢;refine C2 [4,6,20,21] (fun(p:Nat×Option Nat×Heap)=>[(22,.int .i64 p.1)]) (fun(p:Nat×Option Nat×Heap)=>p.2.2) (fun(p:Nat×Option Nat×Heap)=>p.1≤l.length∧AH 7 Cs r (fun x=>[.int .i64 o,.int .i64 0,.nilsl,.int .i64 0,.bool false,.str ⟨#[]⟩,x]) (Rw B9 (l.take p.1)) p.1 p.2.1 p.2.2) (fun(p:Nat×Option Nat×Heap)=>l.length-p.1) ((0,none,Cs)) (⟨D1u _,A1P c6⟩) (by simp only[go_sem,seval]) (D20 _) ?_;rintro Ec rfl ⟨i,ob,Hp⟩ ⟨hi,A⟩;simp only at hi A;by_cases C:i<l.length
   ·have G:decide ((i:Int)<l.length)=true:=D1b (by omega);have b0:(i:Int)<l.length:=by omega
    have b1:=D1n C;repeat' (first|with_reducible apply D1Z|simp only[go_sem,seval,G,b0,A9 _ _ C,C0 _ _ C]|(intro g;try simp only[A6]at g)|omega)
    rename_i L;have h8:=g;clear g;obtain⟨d1,d7,dO,dN⟩:=A.at7 h8 (.box (B9 l[i]));refine F7 (fun i'=>.agg (B9 l[i])) [r,L] ?_;have m1:r∈[r,L]:=by simp
    have m7:L∈[r,L]:=by simp
    repeat' (first|simp only[go_sem,seval,d1,d7,m1,m7]|(intro g;try simp only[A6]at g)|with_reducible refine S6 (fun H' Q hro hq=>B4R l[i] (fl _ b1) H' hq) ?_)
    rename_i x;have hx:=g;clear g;obtain⟨a0,b2⟩:=hx;have I:(Hp.set L (.box (B9 l[i]))) x=none:=by rw[A3 _ a0];exact b2
    obtain⟨O,a4⟩:=A6G dO I (.vec 7 [B9 l[i]]);have b3:x∉[r,L]:=by
     simp only[D11,D12,or_false,not_or];exact⟨fun e=>(by rw[e,d1]at I;cases I),a0⟩
    have b7: ∀c,ob=some c→c∉[r,L]:=fun c e=>by
     simp only[D11,D12,or_false,not_or];exact⟨(A.fresh c e).2,dN c e⟩
    refine A8S 28 96 (n:=i) (m:=1) (bx:=x) (ob:=ob) (es:=Rw B9 (l.take i)) (xs:=[B9 l[i]]) (by simp only[go_sem,seval]) (by decide) (by simp only[go_sem,seval]) (by simp only[go_sem,seval]) (by simp only[go_sem,seval]) (by simp only[go_sem,seval]) (A0 _ _) rfl (by simp) O (R2 _ _ (by omega)).symm b3 a4 b7 (by simp only[D1e,D1g];omega) (by simp only[D1e,D1g];omega) fun b' a5=>?_;rw[E6 I]at a5⊢;obtain⟨c1,b9,A'⟩:=A.step h8 _ a5 (B9 l[i]);revert A';generalize c0:((L5 (Hp.set L (.box (B9 l[i]))) ob).set b' (.vec 7 (Rw B9 (l.take i)++[B9 l[i]]))).set r (.box [.int .i64 o,.int .i64 0,.nilsl,.int .i64 0,.bool false,.str ⟨#[]⟩,.vec b' 7 0 (i+1)])=Hf;intro A';repeat' (first|simp only[go_sem,seval,b9,m1]|simp(disch:=omega) only[A4,A9,C3])
    exact C1 (i+1,some b',Hf) ⟨by simp only[];omega,by simp only[];rw[S2 l i C];exact A'⟩ (by simp only[];omega) (by(try simp only[go_sem,seval])<;>(try simp(disch:=omega) [A4])) (by rw[←c0];exact D20 _)
   ·have G:decide ((i:Int)<l.length)=false:=D1c (by omega);have a6:i=l.length:=by omega
    have J:=A.keep y _ X c4;rw[D1o (by omega)]at A;have A1:=A.box;have o1:=A45 7 i ob;have fo:FmFit (.mk o 0 nilL D3 l):=T9 (by rcases ho with rfl|rfl<;>simp[S8]) hlen fl;have vo:VOk (.mk o 0 nilL D3 l):=.inl (by rw[K5];simp only[Fm.l,Fm.ks,nilL,D1g];omega);have vv: ∀Q:D→Heap→Prop,Q (.bool (E3 (.mk o 0 nilL D3 l))) Hp→D8 18 [.agg [.int .i64 o,.int .i64 0,.nilsl,.int .i64 0,.bool false,.str ⟨#[]⟩,J8 7 i ob]] Hp Q:=fun Q hq=>
     A4S (args':=[.agg (B9 (.mk o 0 nilL D3 l))]) rfl (fun j d d' h1 h2=>by
      match j with
      |0=>cases h1;cases h2;exact C0k a6 A.out
      |j+1=>cases h1) (S4 _ fo vo _ ⟨rfl,hq⟩)
    cases a9:E3 (.mk o 0 nilL D3 l)with
    |false=>
     rw[a9]at h vv;simp only[D1p,if_false]at h;rw[U]at J;repeat' (first|simp only[go_sem,seval,G,A1,J,o1]|with_reducible refine vv _ ?_)
     exact D4 (A7M 3) (D21 (fun k q hk=>by
      have k4:k≠y:=fun e=>by rw[e,g4]at hk;cases hk
      rw[A3 _ k4];have k6:k≠r:=fun e=>by rw[e,Y]at hk;cases hk
      exact A.keep k q k6 (u _ _ hk)) h)
    |true=>
     rw[a9]at h vv;simp only[if_true]at h;rw[U]at J;repeat' (first|simp only[go_sem,seval,G,A1,J,o1]|with_reducible refine vv _ ?_)
     exact A4L a6 (A.out2 c4 _) (D21 (A.le2 u Y g4 _) h)
theorem C71{Q}(l:List Fm)(d: ∀f∈l,FmFit f)(hlen:l.length≤1466015503658)(e: ∀f∈l,VOk f)(hw:l.all E3=true→J5.wtL l≤900000)(H:Heap)(h:Q (.tuple [.agg (B9 (A2U 5 l).1),.int .i64 (A2U 5 l).2]) H):D8 24 [.sl 7 (Rw B9 l)] H Q:=by
 refine A8 [] A5 Tryz.func24 rfl ?_;simp only[go_sem,seval,Tryz.results24];repeat' (first|simp only[go_sem,seval]|intro g|with_reducible refine B8k 5 (.inl rfl) l d hlen e hw _ ?_)
 exact D21 (A2 (by assumption)) h
theorem D0H{Q}(l:List Fm)(d: ∀f∈l,FmFit f)(hlen:l.length≤1466015503658)(e: ∀f∈l,VOk f)(hw:l.all E3=true→J5.wtL l≤900000)(H:Heap)(h:Q (.tuple [.agg (B9 (A2U 6 l).1),.int .i64 (A2U 6 l).2]) H):D8 26 [.sl 7 (Rw B9 l)] H Q:=by
 refine A8 [] A5 Tryz.func26 rfl ?_;simp only[go_sem,seval,Tryz.results26];repeat' (first|simp only[go_sem,seval]|intro g|with_reducible refine B8k 6 (.inr rfl) l d hlen e hw _ ?_)
 exact D21 (A2 (by assumption)) h
end Go.Proofs.YtibphjonmikciaaGreatDoor
