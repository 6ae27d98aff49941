/- Part of the proof: what the last text builds on. No condition stands here. -/
import Derived.Test.YtibphjonmikciaaGreatDoorProg
import Derived.Test.YtibphjonmikciaaGreatDoorRows
import Derived.Test.YtibphjonmikciaaGreatDoorCards
import Derived.Test.YtibphjonmikciaaGreatDoorTie
import Derived.Test.YtibphjonmikciaaGreatDoorWc5
set_option linter.unusedSimpArgs false
set_option linter.unusedVariables false
set_option maxRecDepth 20000
namespace Go.Fo
open Go Go.Av Go.Lexs Go.Lin
theorem B5C(b:Bool)(t:LTm)(h1:I2 (B t.v)=true)(h:t.c.natAbs≤1048576):(U5 b t).length≤230:=by
 have:=A5Z 18 t.c.natAbs (by omega);have hn:=A3E h1;have hb:=a7 t.v;unfold U5;simp only[D1N];have e1:(if t.c<0 then [45]else if b=true then([]:List UInt8)else [43]).length≤1:=by split;simp;split<;>simp
 have e2:(if t.c.natAbs=1 then([]:List UInt8)else dec t.c.natAbs++[42]).length≤20:=by
  split
  ·simp
  ·simp only[D1N,D1M,D1O];omega
 omega
theorem B2m: ∀(l:List LTm) (b:Bool),(∀t∈l,I2 (B t.v)=true∧t.c.natAbs≤1048576)→(L6 b l).length≤230*l.length:=by
 intro l
 induction l with
 |nil=>intro b _;simp[L6]
 |cons t l i=>
  intro b h;rw[L6,D1N,D1M];have:=B5C b t (h t (D1S ..)).1 (h t (D1S ..)).2;have:=i false fun x hx=>h x (D1Z _ hx);omega
theorem B5D{l:LinV}(h:validL l=true):(F5 l).length≤230*l.t.length+30:=by
 have ok:=M4 h;have h1:=B2m l.t true fun t ht=>⟨(N1 ok.t t ht).1,(N1 ok.t t ht).2.2⟩
 have hk:=ok.k;have:=A5Z 18 l.k.natAbs (by omega);have e1:(R8 l).length≤20:=by
  unfold R8 A0N;split
  ·have e1:(if l.k<0 then [45]else if l.t.isEmpty=true then([]:List UInt8)else [43]).length≤1:=by split;simp;split<;>simp
   rw[D1N];omega
  ·simp
 have e2:(if l.e=true then([61,48]:List UInt8)else [62,61,48]).length≤3:=by split<;>simp
 unfold F5 M2;rw[D1N,D1N];omega
theorem A6x: ∀(f:Fm),J1 E3 f=true→(E4 f).length+2≤400*J9 f:=by
 intro f
 induction f using O1 with
 |h o n l s ks j=>
  intro p;have hk: ∀k∈ks,J1 E3 k=true:=fun k hk=>S7 (f:=.mk o n l s ks) p hk;have key: ∀(m:List Fm) (b:Bool),(∀k∈m,(E4 k).length+2≤400*J9 k)→(E4.textK b m).length≤400*J9.wtL m:=by
   intro m
   induction m with
   |nil=>intro b _;simp[E4.textK]
   |cons g q i=>
    intro b hm;have r:=hm g (D1S ..);have u:=i false fun k h=>hm k (D1Z _ h);have x:(if b=true then([]:List UInt8)else [44,32]).length≤2:=by split<;>simp
    rw[P2,J9.wtL,D1N,D1N];omega
  have y:=key ks true fun k hm=>j k hm (hk k hm);have hw:J9 (.mk o n l s ks)=1+l.t.length+J9.wtL ks:=L7 _;rw[hw];cases Z1 p with
  |con n h=>rw[B3l rfl];split<;>(simp only[A07,flsB,D1M,D1O];omega)
  |lin l h hp=>rw[B3m rfl];have:=B5D h;simp only[Fm.l];omega
  |var s h=>
   rw[B3n rfl];have:=A3E (A6k h);have:=a7 s;simp only[Fm.s,D1M];omega
  |not k=>rw[B3o rfl rfl];have:=j k (D1S ..) (hk k (D1S ..));simp only[J9.wtL,D1M];omega
  |and ks=>rw[A5A (by simp[Fm.op]) (by simp[Fm.op]) (by simp[Fm.op]) (by simp[Fm.op])];simp only[Fm.ks,D1M,D1N,D1O];omega
  |or ks=>rw[A5A (by simp[Fm.op]) (by simp[Fm.op]) (by simp[Fm.op]) (by simp[Fm.op])];simp only[Fm.ks,D1M,D1N,D1O];omega
theorem A6y(ks:List Fm)(i:Nat)(hk: ∀k∈ks,J1 E3 k=true):(E4.textK true (ks.take i)).length≤400*J9.wtL (ks.take i):=by
 have key: ∀(m:List Fm) (b:Bool),(∀k∈m,J1 E3 k=true)→(E4.textK b m).length≤400*J9.wtL m:=by
  intro m
  induction m with
  |nil=>intro b _;simp[E4.textK]
  |cons g o j=>
   intro b hm;have p:=A6x g (hm g (D1S ..));have q:=j false fun k h=>hm k (D1Z _ h);have r:(if b=true then([]:List UInt8)else [44,32]).length≤2:=by split<;>simp
   rw[P2,J9.wtL,D1N,D1N];omega
 exact key _ true fun k h=>hk k (List.mem_of_mem_take h)
theorem node_or{f:Fm}(i:J1 E3 f=true):(∃m,(m=0∨m=1)∧f= .mk 1 m nilL D5 [])∨(∃l,validL l=true∧(∀t∈l.t,plainB t.v=true)∧f= .mk 2 0 l D5 [])∨(∃s,plainB s=true∧f= .mk 3 0 nilL s [])∨(∃k,f= .mk 4 0 nilL D5 [k])∨∃o ks,(o=5∨o=6)∧f= .mk o 0 nilL D5 ks:=by
 cases Z1 i with
 |con n h=>exact .inl ⟨n,h,rfl⟩
 |lin l h hp=>exact .inr (.inl ⟨l,h,hp,rfl⟩)
 |var s h=>exact .inr (.inr (.inl ⟨s,h,rfl⟩))
 |not k=>exact .inr (.inr (.inr (.inl ⟨k,rfl⟩)))
 |and ks=>exact .inr (.inr (.inr (.inr ⟨5,ks,.inl rfl,rfl⟩)))
 |or ks=>exact .inr (.inr (.inr (.inr ⟨6,ks,.inr rfl,rfl⟩)))
theorem A0a(l:List Fm)(i:Nat)(h:i<l.length):J9.wtL (l.take i)+J9 l[i]≤J9.wtL l:=by
 have:=B3V (l.take i) (l.drop i);rw[List.take_append_drop]at this;have:=B6u l i h;omega
end Go.Fo
namespace Go.Proofs.YtibphjonmikciaaGreatDoor
open Go Go.Av Go.Lexs Go.Lin Go.Fo
attribute [local irreducible] ACalls S9
set_option maxHeartbeats 4000000 in
theorem C0i(n:Nat): ∀{Q} (f:Fm) (hn:SizeOf.sizeOf f≤n) (hf:J1 E3 f=true) (fa:FmFit f) (b:Nat) (st:Option Nat) (bs:List UInt8) (hl:bs.length+400*J9 f≤140737488355328) (H:Heap) (hT:Tabs H) (b2:BldOk H b st bs)
    (h: ∀c',BldOk H b (some c') (bs++E4 f)→Q (.tuple []) (L4 H b (some c') (bs++E4 f))),D7 68 [.box b 0,.agg (C1 f)] (L4 H b st bs) Q:=by
  induction n with
  |zero=>intro Q f hn;cases f;simp at hn
  |succ n ih=>
  intro Q f hn hf fa b st bs hl H hT b2 h;refine A9 [] A6 Tryz.func68 rfl ?_;simp only[go_sem,seval,Tryz.results68];intro b3 g3;have u:=A6x f hf;have b4:=fa.kl;obtain⟨e3,q,c5⟩:=A31 (o:=.box (C1 f)) g3 b2;rw[e3];have c3:(H.set b3 (.box (C1 f))) b3=some (.box (C1 f)):=A3 _ _;have T:H.Le (H.set b3 (.box (C1 f))):=A0 c5;have G:=hT.le T;generalize H.set b3 (.box (C1 f))=Bs at q c3 T G⊢;have d3: ∀{b6 b7},BldOk Bs b b6 b7→L4 Bs b b6 b7 b3=some (.box (C1 f)):=fun hk=>A2e hk _ _ c3;have p3:=d3 q;have done: ∀c':Nat,BldOk Bs b (some c') (bs++E4 f)→Fin Q (.tuple []) (L4 Bs b (some c') (bs++E4 f)):=fun c' hk=>D2j (A5j T) (h c' (hk.less T));rcases node_or hf with⟨m,hm,rfl⟩|⟨l,hv,hp,rfl⟩|⟨s,hp,rfl⟩|⟨k,rfl⟩|⟨o,ks,ho,rfl⟩
  · rw[B3l rfl]at done u
    simp only[Fm.n]at done u;have z1:(⟨#[116,114,117,101]⟩:ByteArray).size=4:=rfl;have z0:(⟨#[102,97,108,115,101]⟩:ByteArray).size=5:=rfl;rcases hm with rfl|rfl
    all_goals
      (repeat' (first|with_reducible apply D1H|simp only[go_sem,seval,p3]|simp(disch:=first|omega|grind) only[A8]|intro y|omega)
       rename_i x;have hx:=y;clear y;obtain⟨e5,I,c6⟩:=A31 (o:=.vec 1 [[.str ⟨#[102,97,108,115,101]⟩],[.str ⟨#[116,114,117,101]⟩]]) hx q;have J:=A0 (o:=.vec 1 [[.str ⟨#[102,97,108,115,101]⟩],[.str ⟨#[116,114,117,101]⟩]]) c6;have q3:L4 (Bs.set x (.vec 1 [[.str ⟨#[102,97,108,115,101]⟩],[.str ⟨#[116,114,117,101]⟩]])) b st bs b3=_:=A2e I _ _ (J _ _ c3);have qx:L4 (Bs.set x (.vec 1 [[.str ⟨#[102,97,108,115,101]⟩],[.str ⟨#[116,114,117,101]⟩]])) b st bs x=some (.vec 1 [[.str ⟨#[102,97,108,115,101]⟩],[.str ⟨#[116,114,117,101]⟩]]):=A2e I _ _ (A3 _ _);rw[e5];repeat' (first|with_reducible apply D1H|simp only[go_sem,seval,q3,qx]|simp(disch:=omega) only[A4,B3,A19,B4,A0a]|simp(disch:=first|omega|grind) only[A8]|intro y|omega)
       refine N8 b st bs _ _ I ?_ ?_ fun c' j=>?_
       · decide
       · simp only[z1,z0];omega
       repeat' simp only[go_sem,seval]
       exact Fin.then (A5j J) (done c' (j.less J)))
  · rw[B3m rfl]at done u
    simp only[Fm.l]at done u;have hlen:(S (F5 l)).size=(F5 l).length:=O6 _;have e0:(F5 l).length≠0:=fun e=>B2b l (D1f e);have tx:=fun(Q:D→Heap→Prop) (H:Heap) (hT:Tabs H)=>B7V (Q:=Q) l fa.lin H hT;simp only[hv,if_true]at tx;repeat' (first|with_reducible apply D1H|simp only[go_sem,seval,p3]|with_reducible refine tx _ _ (G.le (A2e q)) ?_)
    refine N8 b st bs (S (F5 l)) _ q (by omega) (by omega) fun c' j=>?_;rw[v8]at j⊢;repeat' simp only[go_sem,seval]
    exact done c' j
  · rw[B3n rfl]at done u
    simp only[Fm.s]at done u;have hlen:(⟨#[63]⟩++s:ByteArray).size=1+s.size:=by rw[ByteArray.size_append];rfl
    have hB:B (⟨#[63]⟩++s:ByteArray)=63::B s:=by rw[A0A];rfl
    have e4:=a7 s;simp only[D1M]at u;repeat' (first|with_reducible apply D1H|simp only[go_sem,seval,p3]|omega)
    refine N8 b st bs (⟨#[63]⟩++s) _ q (by omega) (by omega) fun c' j=>?_;rw[hB]at j⊢;repeat' simp only[go_sem,seval]
    exact done c' j
  · rw[B3o rfl rfl]at done u
    have r0:(Rw C1 [k]).getD 0 []=C1 k:=rfl;have hsz:SizeOf.sizeOf k<SizeOf.sizeOf (Fm.mk 4 0 nilL D5 [k]):=A0Z (f:=.mk 4 0 nilL D5 [k]) (D1S ..);have hw:J9 (.mk 4 0 nilL D5 [k])=1+J9 k:=by rw[L7];simp[Fm.l,Fm.ks,nilL,J9.wtL]
    rw[hw]at hl;repeat' (first|with_reducible apply D1H|simp only[go_sem,seval,p3])
    refine N8 b st bs ⟨#[33]⟩ _ q (by decide) (by show _+1≤_;omega) fun c' j=>?_;have hB:B (⟨#[33]⟩:ByteArray)= [33]:=rfl;rw[hB]at j⊢;have q3:=d3 j;repeat' (first|with_reducible apply D1H|simp only[go_sem,seval,q3,r0]|omega)
    all_goals first
      |decide
      |omega
      |skip
    refine ih k (by omega) (S7 hf (D1S ..)) (fa.kid (D1S ..)) b (some c') (bs++[33]) (by rw[D1N,D1P];omega) _ G j fun c7 W=>?_;have he:bs++[33]++E4 k=bs++33::E4 k:=by simp
    rw[he]at W⊢;repeat' simp only[go_sem,seval]
    exact done c7 W
  · have U: ∀k∈ks,J1 E3 k=true:=fun k hk=>S7 (f:=.mk o 0 nilL D5 ks) hf hk
    have b9: ∀k∈ks,FmFit k:=fun k hk=>fa.kid hk;have b4:ks.length≤1466015503658:=b4;have hw:J9 (.mk o 0 nilL D5 ks)=1+J9.wtL ks:=by rw[L7];simp[Fm.l,Fm.ks,nilL]
    rw[hw]at hl;have c0:B (⟨#[41]⟩:ByteArray)= [41]:=rfl;have c2:B (⟨#[44,32]⟩:ByteArray)= [44,32]:=rfl;have hsz: ∀k∈ks,SizeOf.sizeOf k<SizeOf.sizeOf (Fm.mk o 0 nilL D5 ks):=fun k hk=>A0Z (f:=.mk o 0 nilL D5 ks) hk;obtain⟨Y,M⟩: ∃Y:ByteArray,Y=if o=6 then⟨#[124,40]⟩else⟨#[38,40]⟩:=⟨_,rfl⟩
    have d0:E4 (.mk o 0 nilL D5 ks)=B Y++(E4.textK true ks++[41]):=by
      rcases ho with rfl|rfl
      · rw[A5A (by simp[Fm.op]) (by simp[Fm.op]) (by simp[Fm.op]) (by simp[Fm.op]),M];rfl
      · rw[A5A (by simp[Fm.op]) (by simp[Fm.op]) (by simp[Fm.op]) (by simp[Fm.op]),M];rfl
    rw[d0]at done u;have d5:Y.size=2:=by rw[M];split<;>rfl
    have e6:=a7 Y;rcases ho with rfl|rfl
    all_goals
      (simp only[Int.reduceEq,if_true,if_false]at M
       repeat' (first|with_reducible apply D1H|simp only[go_sem,seval,p3,←M])
       refine N8 b st bs Y _ q (by omega) (by omega) fun c' j=>?_;have q3:=d3 j;repeat' simp only[go_sem,seval,q3]
       obtain⟨X0,a0⟩: ∃X0,X0=bs++B Y:=⟨_,rfl⟩
       rw[←a0]at j q3⊢;have d6:X0.length=bs.length+2:=by rw[a0,D1N];omega
       refine C8 [0,18,19] (fun(A:Nat×Nat×List UInt8)=>[(20,.int .i64 A.1)]) (fun(A:Nat×Nat×List UInt8)=>L4 Bs b (some A.2.1) A.2.2) (fun(A:Nat×Nat×List UInt8)=>A.1≤ks.length∧BldOk Bs b (some A.2.1) A.2.2∧A.2.2=X0++E4.textK true (ks.take A.1)) (fun(A:Nat×Nat×List UInt8)=>ks.length-A.1) ((0,c',X0)) (⟨D1c _,j,by simp[E4.textK]⟩) (by(try simp only[go_sem,seval])<;>(try simp(disch:=omega) [A4])) (by first|exact D2i _|exact A0 (by assumption)|exact B9 (by assumption)|simp only[Heap.Le,Heap.set,Heap.del]at* <;>grind) ?_;rintro Ec rfl ⟨i,c,X⟩ ⟨q1,q2,q4⟩;simp only at q1 q2 q4
       have d2:X.length≤bs.length+2+400*J9.wtL (ks.take i):=by
         have:=A6y ks i U;rw[q4,D1N];omega
       by_cases z:i<ks.length
       · have V:decide ((i:Int)<ks.length)=true:=D1J (by omega)
         have c4:(i:Int)<ks.length:=by omega
         have hm:=D1V z;have e7:=A0a ks i z;have d7:=A6x ks[i] (U _ hm);by_cases h0:i=0
         · have hg:decide ((0:Int)<i)=false:=D1K (by omega)
           have a6: ¬(0:Int)<i:=by omega
           repeat' (first|with_reducible apply D1H|simp only[go_sem,seval,V,c4,hg,a6,B3 _ _ z,C3 _ _ z]|intro y|omega)
           rename_i b8;have a9:=y;clear y;obtain⟨e8,O,b0⟩:=A31 (o:=.box (C1 ks[i])) a9 q2;have r:Bs.Le (Bs.set b8 (.box (C1 ks[i]))):=A0 b0;have c8:(Bs.set b8 (.box (C1 ks[i]))) b8=some (.box (C1 ks[i])):=A3 _ _;rw[e8];refine ih ks[i] (by have:=hsz _ hm;omega) (U _ hm) (b9 _ hm) b (some c) X (by omega) _ (G.le r) O fun c9 p=>?_;repeat' (first|simp only[go_sem,seval]|simp(disch:=omega) only[A4,B3,A19,B4,A0a])
           exact C4 (i+1,c9,X++E4 ks[i]) ⟨by simp only[];omega,p.less r,by simp only[];rw[q4,A19 _ _ z,if_pos h0];simp⟩ (by simp only[];omega) (by(try simp only[go_sem,seval])<;>(try simp(disch:=omega) [A4])) (A5j r)
         · have hg:decide ((0:Int)<i)=true:=D1J (by omega)
           have a6:(0:Int)<i:=by omega
           repeat' (first|with_reducible apply D1H|simp only[go_sem,seval,V,c4,hg,a6,B3 _ _ z,C3 _ _ z]|intro y|omega)
           rename_i b8;have a9:=y;clear y;obtain⟨e8,O,b0⟩:=A31 (o:=.box (C1 ks[i])) a9 q2;have r:Bs.Le (Bs.set b8 (.box (C1 ks[i]))):=A0 b0;have c8:(Bs.set b8 (.box (C1 ks[i]))) b8=some (.box (C1 ks[i])):=A3 _ _;rw[e8];refine N8 b (some c) X ⟨#[44,32]⟩ _ O (by decide) (by show _+2≤_;omega) fun c9 p=>?_;rw[c2]at p⊢;have d8:=A2e p _ _ c8;repeat' simp only[go_sem,seval,d8]
           refine ih ks[i] (by have:=hsz _ hm;omega) (U _ hm) (b9 _ hm) b (some c9) (X++[44,32]) (by rw[D1N];simp only[D1M,D1O];omega) _ (G.le r) p fun d4 b1=>?_;repeat' (first|simp only[go_sem,seval]|simp(disch:=omega) only[A4,B3,A19,B4,A0a])
           exact C4 (i+1,d4,X++[44,32]++E4 ks[i]) ⟨by simp only[];omega,b1.less r,by simp only[];rw[q4,A19 _ _ z,if_neg h0];simp⟩ (by simp only[];omega) (by(try simp only[go_sem,seval])<;>(try simp(disch:=omega) [A4])) (A5j r)
       · have V:decide ((i:Int)<ks.length)=false:=D1K (by omega)
         rw[D1W (by omega)]at q4 d2;repeat' simp only[go_sem,seval,V]
         refine N8 b (some c) X ⟨#[41]⟩ _ q2 (by decide) (by show _+1≤_;omega) fun c9 p=>?_;rw[c0]at p⊢;have he:X++[41]=bs++(B Y++(E4.textK true ks++[41])):=by rw[q4,a0];simp only[D15]
         rw[he]at p⊢;repeat' simp only[go_sem,seval]
         exact done c9 p)
theorem A5k{Q}(f:Fm)(y:FmFit f)(z:VOk f)(H:Heap)(A:Tabs H)(h:Q (.tuple [.str (if D8 f=true then S (E4 f)else S []),.int .i64 (if D8 f=true then 0 else 2)]) H):D7 27 [.agg (C1 f)] H Q:=by
 refine A9 [] A6 Tryz.func27 rfl ?_;simp only[go_sem,seval,Tryz.results27];intro q G;have e1:(H.set q (.box (C1 f))) q=some (.box (C1 f)):=A3 _ _;have i:H.Le (H.set q (.box (C1 f))):=A0 G;generalize H.set q (.box (C1 f))=Bs at e1 i⊢;have u:=A.le i;have r:=fun(Q:D→Heap→Prop) (H:Heap)=>P3 (Q:=Q) f y z H;cases hv:D8 f with
 |false=>
  rw[hv]at h r;simp only[D1X,if_false]at h;repeat' (first|simp only[go_sem,seval,e1]|with_reducible refine r _ _ ?_)
  exact D2j i h
 |true=>
  rw[hv]at h r;simp only[if_true]at h;have I:=A6o hv;repeat' (first|simp only[go_sem,seval,e1]|simp(disch:=first|omega|grind) only[A8]|intro m|with_reducible refine r _ _ ?_)
  rename_i o;have J:=m;clear m;have p:BldOk Bs o none []:=⟨J,fun _=>rfl,fun c e=>by cases e⟩
  have x:Bs.set o (.box [.nilp,.nilsl] (some 97))=L4 Bs o none []:=rfl;rw[x];have d1:=A2e p _ _ e1;repeat' (first|with_reducible apply D1H|simp only[go_sem,seval,d1]|simp(disch:=omega) only[B4]|simp(disch:=first|omega|grind) only[A8]|intro m|omega)
  refine C0i _ f (D1b _) (M0 hv) y o none [] (by simp only[D1O];omega) _ u p fun c' j=>?_;rw[D2T]at j⊢;repeat' (first|simp only[go_sem,seval]|with_reducible refine B1P o c' (E4 f) _ j ?_)
  exact D2j i h
end Go.Proofs.YtibphjonmikciaaGreatDoor
namespace Go.Fo
open Go Go.Av Go.Lexs Go.Lin
theorem RdS.out{H i G:Heap}{br sz:Nat}{es:List (List D)}{ob:Option Nat}{r:List UInt8}{bad:Bool}{rd:List D}(h:RdS H i br r bad)(j:G br=none)(hb:H br=some (.box rd))(q:OutIn G sz es ob H):OutIn G sz es ob i:=by
 refine⟨h.le q.1 j,?_,q.2.2⟩;cases ob with
 |none=>exact q.2.1
 |some c=>
  have hc:H c=some (.vec sz es):=q.2.1;exact h.keep hc fun e=>by rw[e,hb]at hc;cases hc
theorem B77{G h:Heap}{br x j sz:Nat}{ob:Option Nat}{es:List (List D)}{c rd:List D}{o:Av.Obj}(q:OutIn G sz es ob h)(i:h br=some (.box rd))(hx:h x=none)(y:G j=none)(m:I3 (h.set x o) ob j=none):
  ((I3 (h.set x o) ob).set j (.vec sz (es++[c]))) br=some (.box rd)∧OutIn G sz (es++[c]) (some j) ((I3 (h.set x o) ob).set j (.vec sz (es++[c]))):=by
 have z:=q.set hx o;have r:br≠x:=fun e=>by rw[←e,i]at hx;cases hx
 have h1:I3 (h.set x o) ob br=some (.box rd):=by
  cases ob with
  |none=>show (h.set x o) br=_;rw[A2 _ r];exact i
  |some c=>
   have hc:h c=some (.vec sz es):=q.2.1;have:br≠c:=fun e=>by rw[←e,i]at hc;cases hc
   show (Heap.del _ c) br=_;rw[D0 this,A2 _ r];exact i
 have u:br≠j:=fun e=>by rw[←e,h1]at m;cases m
 refine⟨by rw[A2 _ u];exact h1,fun k p hk=>?_,A3 _ _,fun b e=>by cases e;exact y⟩;have:k≠j:=fun e=>by rw[e,y]at hk;cases hk
 rw[A2 _ this];exact z.le k p hk
theorem B1Q{H Hp:Heap}{br sz:Nat}{es:List (List D)}{ob:Option Nat}{r:List UInt8}{bad:Bool}(q:OutIn (H.del br) sz es ob Hp)(h:Hp br=some (.box [.str (S r),.bool bad])):(H.set br (.box [.str (S r),.bool bad])).Le (I3 Hp ob):=fun k o hk=>by
 by_cases e:k=br
 ·subst e;rw[A3]at hk;cases ob with
  |none=>show Hp k=_;rw[h];exact hk
  |some c=>
   have hc:Hp c=some (.vec sz es):=q.2.1;have:k≠c:=fun e=>by rw[←e,h]at hc;cases hc
   show (Heap.del _ c) k=_;rw[D0 this,h];exact hk
 ·rw[A2 _ e]at hk;exact q.le k o (by rw[D0 e];exact hk)
theorem B5E{H Hp:Heap}{br sz:Nat}{es:List (List D)}{ob:Option Nat}{r:List UInt8}{bad:Bool}(q:OutIn (H.del br) sz es ob Hp)(h:Hp br=some (.box [.str (S r),.bool bad])):(H.set br (.box [.str (S r),.bool bad])).Le Hp:=(B1Q q h).trans (B9e _ _)
end Go.Fo
namespace Go.Proofs.YtibphjonmikciaaGreatDoor
open Go Go.Av Go.Lexs Go.Lin Go.Fo
attribute [local irreducible] ACalls S9
theorem Tabs.hro{H H':Heap}(i:Tabs H)(h: ∀k cs,H k=some (.ro cs)→H' k=some (.ro cs)):Tabs H':=⟨h _ _ i.pow,let ⟨t,e⟩:=i.syn;⟨t,h _ _ e⟩,let ⟨t,e⟩:=i.rng;⟨t,h _ _ e⟩⟩
theorem Tabs.rd{H Hp:Heap}{br:Nat}{rd:List D}(i:Tabs H)(hb:H br=some (.box rd))(h:(H.del br).Le Hp):Tabs Hp:=i.hro fun k cs hk=>h k _ (by
 have j:k≠br:=fun e=>by rw[e,hb]at hk;cases hk
 rw[D0 j];exact hk)
def A8E(e:Nat):Prop:=∀(Q:D→Heap→Prop) (br:Nat) (r:List UInt8),r.length≤20000→(∀k,A6s (r.drop k))→∀(H:Heap),Tabs H→H br=some (.box [.str (S r),.bool false])→(∀H',RdS H H' br (G5 e r).2.1 (G5 e r).2.2→Q (.agg (C1 (G5 e r).1)) H')→D7 71 [.box br 0,.int .i64 (61-e)] H Q
theorem A2f{r:List UInt8}(hx: ∀k,A6s (r.drop k))(j:Nat): ∀k,A6s ((r.drop j).drop k):=fun k=>by rw[D2R];exact hx _
set_option maxHeartbeats 4000000 in
theorem B78(e:Nat)(he:e≤60)(hF:A8E e){Q}(br:Nat)(y:List UInt8)(b7:y.length≤20000)(b8: ∀k,A6s (y.drop k))(H:Heap)(hT:Tabs H)(hb:H br=some (.box [.str (S y),.bool false]))
  (a6: ∀r,r.length≤20000→∃j,(G5 e r).2.1=r.drop j)
  (h: ∀H',RdS H H' br (Y0 (G5 e) y).2.1 (Y0 (G5 e) y).2.2→Q (.sl 7 (Rw C1 (Y0 (G5 e) y).1)) H'):D7 119 [.box br 0,.int .i64 (61-e)] H Q:=by
 refine A9 [] A6 Tryz.func119 rfl ?_;simp only[go_sem,seval,Tryz.results119];have u:B (⟨#[41]⟩:ByteArray)= [41]:=rfl;have J:B (⟨#[44,32]⟩:ByteArray)= [44,32]:=rfl;have M:(⟨#[41]⟩:ByteArray).size=1:=rfl;have a9:(⟨#[44,32]⟩:ByteArray).size=2:=rfl;refine A3H br ⟨#[41]⟩ y false H hb fun H1 O=>?_;rw[u,M]at O;unfold Y0 at h;rw[u];cases hp:pre [41] y with
 |true=>
  rw[hp]at h O;simp only[if_true]at h O;repeat' simp only[go_sem,seval]
  exact E5 (.nil 7) (D2m (h _ O))
 |false=>
  rw[hp]at h O;simp only[D1X,if_false]at h O;obtain⟨fin,T⟩: ∃fin,fin=A08 (G5 e) (y.length+1) y []:=⟨_,rfl⟩
  rw[←T]at h;repeat' simp only[go_sem,seval]
  refine C8 [0,1] (fun(p:(List UInt8×List Fm×Bool)×Option Nat×Heap)=>[(5,H8 7 p.1.2.1.length p.2.1)]) (fun(p:(List UInt8×List Fm×Bool)×Option Nat×Heap)=>p.2.2) (fun(p:(List UInt8×List Fm×Bool)×Option Nat×Heap)=>p.2.2 br=some (.box [.str (S p.1.1),.bool p.1.2.2])∧OutIn (H.del br) 7 (Rw C1 p.1.2.1) p.2.1 p.2.2∧(∃j,p.1.1=y.drop j)∧(p.1.2.2=true→fin=([],p.1.1,true))∧(p.1.2.2=false→p.1.2.1.length+p.1.1.length≤20000∧∃n,p.1.1.length+1≤n∧A08 (G5 e) n p.1.1 p.1.2.1=fin)) (fun(p:(List UInt8×List Fm×Bool)×Option Nat×Heap)=>(if p.1.2.2=true then 0 else p.1.1.length+1)) (((y,[],false),none,H1)) (⟨O.here,⟨fun k o hk=>by
    have k1:k≠br:=fun e=>by rw[e]at hk;simp[Heap.del]at hk
    show H1 k=some o;rw[O.els k k1];rw[D0 k1]at hk;exact hk,rfl,fun _ e=>(by cases e)⟩,⟨0,rfl⟩,fun e=>(by cases e),fun _=>⟨by simpa using b7,_,D1b _,T.symm⟩⟩) (by simp only[go_sem,seval]) (by first|exact D2i _|exact A0 (by assumption)|exact B9 (by assumption)|simp only[Heap.Le,Heap.set,Heap.del]at* <;>grind) ?_
  rintro Ec rfl ⟨⟨r,out,bad⟩,ob,Hp⟩ ⟨q1,q2,⟨j,q3⟩,q4,q5⟩;simp only at q1 q2 q3 q4 q5;cases bad with
  |true=>
   rw[q4 rfl]at h;repeat' simp only[go_sem,seval,q1]
   exact E5 (.nil 7) (D2j (B5E q2 q1) (h _ (RdS.set _ _ _ _)))
  |false=>
   obtain⟨c9,n,hn,hl⟩:=q5 rfl;obtain⟨n,rfl⟩: ∃m,n=m+1:=⟨n-1,by omega⟩
   rw[A08]at hl;have U:r.length≤20000:=by omega
   obtain⟨hsz,_⟩:=B1M e r U;obtain⟨j2,V⟩:=a6 r U;have b9:Tabs Hp:=hT.rd hb q2.1;have c0: ∀k,A6s (r.drop k):=by rw[q3];exact A2f b8 j
   have hG:(H.del br) br=none:=by simp[Heap.del]
   repeat' simp only[go_sem,seval,q1]
   refine hF _ br r U c0 Hp b9 q1 fun H2 s2=>?_;obtain⟨⟨f1,A,b1⟩,c2⟩: ∃x,x=G5 e r:=⟨_,rfl⟩
   rw[←c2]at hl s2 hsz V⊢;simp only at hl s2 hsz V;have b0:=s2.out hG q1 q2;have c4:=s2.here;repeat' (first|simp only[go_sem,seval]|intro b2)
   rename_i x;have hx:=b2;clear b2;refine B3I (b0.set hx _) (by simp) (by rw[D6]) (by simp only[D1M,D1O];omega) (by simp only[D1M,D1O];omega) fun b' c5 b3 c6=>?_;obtain⟨G,W⟩:=B77 (c:=C1 f1) b0 c4 hx c5 b3;have c7:Rw C1 out++[C1 f1]=Rw C1 (out++[f1]):=by simp[Rw]
   rw[c7]at G W⊢;clear b3 c6;generalize (I3 (H2.set x _) ob).set b' (.vec 7 (Rw C1 (out++[f1])))=Hn at G W⊢;repeat' simp only[go_sem,seval]
   refine A3H br ⟨#[41]⟩ A b1 Hn G fun H3 X=>?_;rw[u,M]at X;rw[u];have I:=X.out hG G W;have i:=X.here;cases b4:pre [41] A with
   |true=>
    rw[b4]at hl X i;simp only[if_true]at hl X i;rw[←hl]at h;repeat' simp only[go_sem,seval]
    exact Fin.out (ob:=some b') (es:=Rw C1 (out++[f1])) (by rw[D6];simp) I.2.1 (D2j (B1Q I i) (h _ (RdS.set _ _ _ _)))
   |false=>
    rw[b4]at hl X i;simp only[D1X,if_false]at hl X i;have z: ∃k,A=y.drop k:=⟨j+j2,by rw[V,q3,D2R]⟩
    cases b1 with
    |true=>
     simp only[if_true]at hl;repeat' simp only[go_sem,seval,i]
     refine C4 ((A,out++[f1],true),some b',H3) ⟨i,I,z,fun _=>hl.symm,fun e=>(by cases e)⟩ (by simp only[if_true,D1X,if_false];omega) (by simp only[go_sem,seval,D1N,D1M,D1O]) ?_;rw[B3W i];exact D2i _
    |false=>
     simp only[D1X,if_false]at hl;repeat' simp only[go_sem,seval,i]
     refine A3H br ⟨#[44,32]⟩ A false H3 i fun H4 Y=>?_;rw[J,a9]at Y;rw[J];have b6:=Y.out hG i I;have q:=Y.here;cases a0:pre [44,32] A with
     |true=>
      rw[a0]at hl Y q;simp only[if_true]at hl Y q;obtain⟨k3,z⟩:=z;have c8:=A1d a0;simp only[D1M,D1O]at c8;repeat' simp only[go_sem,seval,q]
      refine C4 ((A.drop 2,out++[f1],false),some b',H4) ⟨q,b6,⟨k3+2,by rw[z,D2R]⟩,fun e=>(by cases e),fun _=>⟨by simp only[D1N,D1M,D1O,D1p];omega,n,by simp only[D1p];omega,hl⟩⟩ (by simp only[D1X,if_false,D1p];omega) (by simp only[go_sem,seval,D1N,D1M,D1O]) ?_;rw[B3W q];exact D2i _
     |false=>
      rw[a0]at hl Y q;simp only[D1X,if_false]at hl Y q;repeat' simp only[go_sem,seval,q]
      exact C4 ((A,out++[f1],true),some b',H4.set br (.box [.str (S A),.bool true])) ⟨A3 _ _,(RdS.set H4 br A true).out hG q b6,z,fun _=>hl.symm,fun e=>(by cases e)⟩ (by simp only[if_true,D1X,if_false];omega) (by simp only[go_sem,seval,D1N,D1M,D1O]) (D2i _)
end Go.Proofs.YtibphjonmikciaaGreatDoor
namespace Go.Fo
open Go Go.Av Go.Lexs Go.Lin
def A5T(f:Fm):Bool:=J1 (fun g=>E3 g&&decide (g.ks.length≤1000)) f
theorem X3: ∀f:Fm,A5T f=true→J1 E3 f=true∧FmFit f:=by
 intro f
 induction f using O1 with
 |h o n l s ks m=>
  intro h;unfold A5T at h;rw[A3o,D1U,D1U]at h;obtain⟨⟨h1,i⟩,j⟩:=h;have i:=D1I i;have j:=D1s.1 j;have i:ks.length≤1000:=i;have hk: ∀k∈ks,J1 E3 k=true∧FmFit k:=fun k hk=>m k hk (j k hk);have p:J1 E3 (.mk o n l s ks)=true:=by
   rw[A3o,D1U];exact⟨h1,D1s.2 fun k hm=>(hk k hm).1⟩
  refine⟨p,?_⟩;cases B7T h1 with
  |con n h=>exact .mk _ _ _ _ _ (by simp[U3]) (by rcases h with rfl|rfl<;>simp[U3]) u0 (by decide) (by simp) (by simp)
  |lin l h hp=>
   have ok:=M4 h;refine A18 ⟨by have:=ok.len;omega,fun t ht=>?_,fun t ht=>?_,?_⟩
   ·have:=A3E (N1 ok.t t ht).1;omega
   ·have:=(N1 ok.t t ht).2.2;unfold U3;omega
   ·have:=ok.k;unfold U3;omega
  |var s h=>exact .mk _ _ _ _ _ (by simp[U3]) (by simp[U3]) u0 (by have:=A3E (A6k h);omega) (by simp) (by simp)
  |not k=>exact P7 (by simp[U3]) (by simp) fun q hq=>(hk q hq).2
  |and ks=>exact P7 (by simp[U3]) (by omega) fun q hq=>(hk q hq).2
  |or ks=>exact P7 (by simp[U3]) (by omega) fun q hq=>(hk q hq).2
theorem C2E{P:Program}{K:Env→Heap→Prop}{E:Env}{H:Heap}{i:List (Option Nat)}{ops:List Oper}(E0:Env)(H0:Heap)(hw:A1N E0 H0 E H)(h:Av.wpOps P i K ops E0 H0):A3V P i ops K E H (some .wk):=⟨E0,H0,hw,h⟩
theorem A8F{H0:Heap}{E m:Env}{x b sz:Nat}{es:List (List D)}{cs cs':List D}(o:Av.Sub m E)(hx:H0 x=none)(h:b≠x)(hl:cs.length=cs'.length)(p: ∀(i:Nat) d d',cs[i]? =some d→cs'[i]? =some d'→Fz x sz es d d'):
  A1N m (H0.set b (.box cs')) E ((H0.set x (.vec sz es)).set b (.box cs)):=by
 refine A40 (b:=x) (sz:=sz) (es:=es) (by rw[A2 _ h.symm];exact A3 _ _) (B6O o) (fun k o' ho=>?_);by_cases hk:k=b
 ·subst hk;rw[A3]at ho;cases ho;exact⟨h,_,A3 _ _,.box _ _ _ hl p⟩
 ·rw[A2 _ hk]at ho;have j:k≠x:=fun e=>by rw[e,hx]at ho;cases ho
  exact⟨j,o',by rw[A2 _ hk,A2 _ j];exact ho,.same _⟩
theorem A32{G H:Heap}{b sz:Nat}{es:List (List D)}{ob:Option Nat}{rd:List D}(q:OutIn G sz es ob H)(h:G b=none)(hb:H b=some (.box rd))(X:Av.Obj):OutIn G sz es ob (H.set b X):=by
 refine⟨fun k o hk=>?_,?_,q.2.2⟩
 ·have:k≠b:=fun e=>by rw[e,h]at hk;cases hk
  rw[A2 _ this];exact q.1 k o hk
 ·cases ob with
  |none=>exact q.2.1
  |some c=>
   have hc:H c=some (.vec sz es):=q.2.1;have:c≠b:=fun e=>by rw[e,hb]at hc;cases hc
   show (H.set b X) c=_;rw[A2 _ this];exact hc
theorem B79(a b:Fm):P4 (C1 a) 0 (C1 b)=C1 b:=by rw[I6 a];exact B90 _ _ _ _ _ _ _ _
theorem A8G{G h:Heap}{p y i sz:Nat}{ob:Option Nat}{es:List (List D)}{c rd:List D}{o:Av.Obj}(q:OutIn G sz es ob h)(j:h p=some (.box rd))(r:h y=none)(u:G i=none)(m:I3 (h.set y o) ob i=none):
  ((I3 (h.set y o) ob).set i (.vec sz (es++[c]))) p=some (.box rd)∧OutIn G sz (es++[c]) (some i) ((I3 (h.set y o) ob).set i (.vec sz (es++[c]))):=B77 q j r u m
def A5B:Fm:=fxL (-1) true
theorem A2B:A5T fxF=true∧A5T fxP=true∧A5T fxN=true∧A5T fxA=true∧A5T fxS=true∧A5T A4m=true∧A5T fxV=true∧A5T (A1B [fxF,normF fxP true])=true∧A5T (A1B [fxF,normF fxF true])=true∧A5T A5B=true:=by decide+kernel
theorem B1R:J9 fxF≤1000∧J9 fxP≤1000∧J9 fxN≤1000∧J9 fxA≤1000:=by decide+kernel
theorem B8A:upS (D9 fxF++D1 fxF)= [nB,nX]:=by decide+kernel
theorem A6z:D1 fxF= [nB]∧nX≠nB∧I2 (B nX)=true:=by decide+kernel
theorem C7c:nB∈J2 (D1 fxF)∧nX∉J2 (D1 fxF):=by
 rw[F6,F6,A6z.1];exact⟨by simp,by simp[A6z.2.1]⟩
theorem A9O:meetL (D9.intsL [fxF,fxP]) (D1.boolsL [fxF,fxP])=false∧(upS (D9.intsL [fxF,fxP])).length+(upS (D1.boolsL [fxF,fxP])).length≤12∧meetL (D9.intsL [fxF,fxF]) (D1.boolsL [fxF,fxF])=false∧(upS (D9.intsL [fxF,fxF])).length+(upS (D1.boolsL [fxF,fxF])).length≤12:=by decide+kernel
end Go.Fo
namespace Go.Proofs.YtibphjonmikciaaGreatDoor
open Go Go.Av Go.Lexs Go.Lin Go.Fo
attribute [local irreducible] ACalls S9
theorem B8B{Q}(f:Fm)(i:FmFit f)(m:VOk f)(hv:D8 f=true)(b:Bool)(hs:X1 f []=some b)(H:Heap)(h:Q (.tuple [.bool b,.int .i64 0]) H):D7 31 [.agg (C1 f)] H Q:=by
 refine A9 [] A6 Tryz.func31 rfl ?_;simp only[go_sem,seval,Tryz.results31];have j:=fun(Q:D→Heap→Prop) (H:Heap)=>P3 (Q:=Q) f i m H;rw[hv]at j;repeat' (first|simp only[go_sem,seval]|intro o|with_reducible refine j _ _ ?_)
 refine A0b 3 ?_;refine A30 f (M0 hv) i [] (by simp) b hs _ ?_;repeat' simp only[go_sem,seval]
 exact D2j (A0 (by assumption)) h
theorem C0j{Q}(f g:Fm)(q:FmFit f)(r:FmFit g)(z:VOk f)(A:VOk g)(u:D8 f=true)(x:D8 g=true)(hm:meetL (D9.intsL [f,g]) (D1.boolsL [f,g])=false)(hl:(upS (D9.intsL [f,g])).length+(upS (D1.boolsL [f,g])).length≤12)
  (b:Bool) (hs:X1 (.mk 5 0 nilL D5 [f,normF g true]) []=some b) (hn:J1 E3 (.mk 5 0 nilL D5 [f,normF g true])=true) (H:Heap) (h:Q (.tuple [.bool (!b),.int .i64 0]) H):D7 37 [.agg (C1 f),.agg (C1 g)] H Q:=by
 refine A9 [] A6 Tryz.func37 rfl ?_;simp only[go_sem,seval,Tryz.results37];intro i G j o;simp only[A5]at o;have p:i≠j:=fun e=>o.1 e.symm;have y:((H.set i (.box (C1 f))).set j (.box (C1 g))) i=some (.box (C1 f)):=by rw[A2 _ p,A3]
 have c3:((H.set i (.box (C1 f))).set j (.box (C1 g))) j=some (.box (C1 g)):=A3 _ _;have m:H.Le ((H.set i (.box (C1 f))).set j (.box (C1 g))):=(A0 G).trans (A0 (by simp only[A5];exact o));generalize (H.set i (.box (C1 f))).set j (.box (C1 g))=Bs at y c3 m⊢;repeat' (first|simp only[go_sem,seval,y,c3]|with_reducible refine C2D f g q r z A u x hm hl _ ?_|with_reducible refine A8C f g (M0 u) q (M0 x) r b hs hn _ ?_)
 exact D2j m h
theorem C0k{Q}(f:Fm)(o:FmFit f)(u:VOk f)(p:D8 f=true)(hm:meetL (D9.intsL [f,f]) (D1.boolsL [f,f])=false)(hl:(upS (D9.intsL [f,f])).length+(upS (D1.boolsL [f,f])).length≤12)
  (hs:X1 (.mk 5 0 nilL D5 [f,normF f true]) []=some false) (hn:J1 E3 (.mk 5 0 nilL D5 [f,normF f true])=true) (H:Heap) (h:Q (.tuple [.bool true,.int .i64 0]) H):D7 38 [.agg (C1 f),.agg (C1 f)] H Q:=by
 refine A9 [] A6 Tryz.func38 rfl ?_;simp only[go_sem,seval,Tryz.results38];intro i z j q;simp only[A5]at q;have r:i≠j:=fun e=>q.1 e.symm;have x:((H.set i (.box (C1 f))).set j (.box (C1 f))) i=some (.box (C1 f)):=by rw[A2 _ r,A3]
 have c3:((H.set i (.box (C1 f))).set j (.box (C1 f))) j=some (.box (C1 f)):=A3 _ _;have m:H.Le ((H.set i (.box (C1 f))).set j (.box (C1 f))):=(A0 z).trans (A0 (by simp only[A5];exact q));generalize (H.set i (.box (C1 f))).set j (.box (C1 f))=Bs at x c3 m⊢;have y:=fun(Q:D→Heap→Prop) (H:Heap)=>A8C (Q:=Q) f f (M0 p) o (M0 p) o false hs hn H;simp only[D2g]at y;repeat' (first|simp only[go_sem,seval,x,c3]|with_reducible refine C2D f f o o u u p p hm hl _ ?_|with_reducible refine y _ _ ?_)
 exact D2j m h
theorem B1S{Q}(so g:Fm)(p:Nat)(H:Heap)(r:H p=some (.box (C1 so)))(h:Q (.agg (C1 (A1B [so,g]))) H):D7 74 [.agg (C1 g),.box p 0] H Q:=by
 refine A9 [] A6 Tryz.func74 rfl ?_;simp only[go_sem,seval,Tryz.results74];intro i u j o;simp only[A5]at o;have y:i≠j:=fun e=>o.1 e.symm;have z:p≠i:=fun e=>by rw[←e,r]at u;cases u
 have A:p≠j:=fun e=>by rw[←e,r]at o;cases o.2
 obtain⟨Z,G⟩: ∃Z:List D,Z= [.int .i64 0,.int .i64 0,.nilsl,.int .i64 0,.bool false,.str ⟨#[]⟩,.nilsl]:=⟨_,rfl⟩
 rw[←G];have I:((H.set i (.box (C1 g))).set j (.box Z)) i=some (.box (C1 g)):=by rw[A2 _ y,A3]
 have c3:((H.set i (.box (C1 g))).set j (.box Z)) j=some (.box Z):=A3 _ _;have J:((H.set i (.box (C1 g))).set j (.box Z)) p=some (.box (C1 so)):=by rw[A2 _ A,A2 _ z];exact r
 have q:H.Le ((H.set i (.box (C1 g))).set j (.box Z)):=(A0 u).trans (A0 (by simp only[A5];exact o));generalize (H.set i (.box (C1 g))).set j (.box Z)=Bs at I c3 J q⊢;rw[G]at c3;repeat' (first|simp only[go_sem,seval,I,c3,J]|simp(disch:=first|omega|grind) only[A8]|(intro m;try simp only[A5]at m))
 rename_i x;have hx:=m;clear m;exact B2k (es:=[C1 so,C1 g]) [so,g] rfl rfl q o.2 c3 hx _ h
theorem B8C{Q}(so:Fm)(j:J1 E3 so=true)(m:FmFit so)(more:List LinV)(hm:more.length≤1000)(b:Bool)(hs:X1 so more=some b)(i:Nat)(H:Heap)(o:H i=some (.box (C1 so)))(h:Q (.bool b) H):D7 77 [.sl 3 (Rw E8 more),.box i 0] H Q:=by
 refine A9 [] A6 Tryz.func77 rfl ?_;simp only[go_sem,seval,Tryz.results77];repeat' (first|simp only[go_sem,seval,o]|with_reducible refine A30 so j m more hm b hs _ ?_)
 exact D2m h
abbrev vW:List D:=[.int .i64 3,.int .i64 0,.nilsl,.int .i64 0,.bool false,.str nB,.nilsl]
abbrev noW(d:D):List D:=[.int .i64 4,.int .i64 0,.nilsl,.int .i64 0,.bool false,.str ⟨#[]⟩,d]
theorem C4a:NilR (.agg (noW (.sl 7 [vW]))) (.agg (C1 A4m)):=by
 rw[show C1 A4m= [.int .i64 4,.int .i64 0,.sl 2 [],.int .i64 0,.bool false,.str ⟨#[]⟩,.sl 7 (Rw C1 [fxV])]from I6 _];refine B0o (.nil 2) (.sl 7 _ _ rfl (fun i e e' h1 o=>?_) (fun i e e' j d d' h1 o h m=>?_))
 ·match i with
  |0=>cases h1;cases o;rfl
  |i+1=>cases h1
 ·match i with
  |0=>
   cases h1;cases o;rw[show C1 fxV= [.int .i64 3,.int .i64 0,.sl 2 [],.int .i64 0,.bool false,.str nB,.sl 7 []]from I6 _]at m
   match j with
   |0=>cases h;cases m;exact .same _
   |1=>cases h;cases m;exact .same _
   |2=>cases h;cases m;exact .nil 2
   |3=>cases h;cases m;exact .same _
   |4=>cases h;cases m;exact .same _
   |5=>cases h;cases m;exact .same _
   |6=>cases h;cases m;exact .nil 7
   |j+7=>cases h
  |i+1=>cases h1
theorem C2F{Q}(so:Fm)(j:Nat)(H:Heap)(o:H j=some (.box (C1 so)))(h:Q (.agg (C1 (A1B [so,A4m]))) H):D7 74 [.agg (noW (.sl 7 [vW])),.box j 0] H Q:=by
 refine j7 (args':=[.agg (C1 A4m),.box j 0]) rfl (fun i d d' h1 m=>?_) (B1S so A4m j H o h)
 match i with
 |0=>cases h1;cases m;exact C4a
 |1=>cases h1;cases m;exact .same _
 |i+2=>cases h1
theorem L0:D8 fxF=true∧FmFit fxF∧VOk fxF∧J1 E3 fxF=true:=⟨Q8.1,(X3 _ A2B.1).2,.inl (by have:=B1R.1;omega),(X3 _ A2B.1).1⟩
def C9z:Nat→Fm
 |0=>fxF
 |1=>fxS
 |_=>A1B [fxS,A5B]
set_option maxHeartbeats 4000000 in
theorem B8D{Q}(H:Heap)(h:Q (.tuple [.sl 2 (Rw vlC fxVals),.int .i64 0]) H):D7 32 [.agg (C1 fxF)] H Q:=by
 refine A9 [(15,.wk)] A6 Tryz.func32 rfl ?_;simp only[go_sem,seval,Tryz.results32];obtain⟨hv,fa,vo,c2⟩:=L0;have vc:=fun(Q:D→Heap→Prop) (H:Heap)=>P3 (Q:=Q) fxF fa vo H;rw[hv]at vc;intro b1 h1;have e1:(H.set b1 (.box (C1 fxF))) b1=some (.box (C1 fxF)):=A3 _ _;have Y:H.Le (H.set b1 (.box (C1 fxF))):=A0 h1;have a6:=A4n.1;have b2:=C0f;have b3:=A4n.2.2.2.2;have b4:=C7c;have a0:=B8A;have A:=A2B;generalize hF:fxF=F at e1 Y vc hv fa vo c2 a6 b4 a0⊢;generalize H.set b1 (.box (C1 F))=Bs at e1 Y⊢;repeat' (first|simp only[go_sem,seval,e1]|with_reducible refine vc _ _ ?_)
 refine A0b 3 ?_;refine A30 F c2 fa [] (by simp) true a6 _ ?_;repeat' (first|simp only[go_sem,seval,e1]|(intro j;try simp only[A5]at j))
 rename_i x;have hx:=j;clear j;refine A3y hx F fa rfl ?_;repeat' (first|simp only[go_sem,seval,e1]|(intro j;try simp only[A5]at j))
 rename_i o;have h7:=j;clear j;have d8:b1≠o:=fun e=>by rw[←e,e1]at h7;cases h7
 have c7:(Bs.set o (.box (C1 F))) o=some (.box (C1 F)):=A3 _ _;have a9:H.Le (Bs.set o (.box (C1 F))):=Y.trans (A0 h7);have c4:H o=none:=Y.none h7;generalize Bs.set o (.box (C1 F))=Cs at c7 a9⊢;refine B71 _ _ (A1W _) _ fun K hK b6=>?_;have e0:K.length≤2:=by
  have:K.length= [nB,nX].length:=((List.perm_ext_iff_of_nodup hK (by decide+kernel)).2 fun y=>by rw[b6,F6,F6,←D1h,←T7,a0]).length_eq;have e4: [nB,nX].length=2:=rfl;omega
 repeat' simp only[go_sem,seval]
 refine A9I _ _ fun bk b8=>?_;repeat' simp only[go_sem,seval]
 refine A9J bk tt K (by omega) (fun s hs=>by
  have:s∈[nB,nX]:=by rw[←a0,T7,D1h,←F6,←F6 (D1 F),←b6];exact hs
  simp only[D1j,D1k,or_false]at this;rcases this with rfl|rfl<;>decide) _ (A3 _ _) fun v c8 hm=>?_
 have ev:v= [nB,nX]:=by
  rw[←a0];exact A6M c8 (A88 _) fun s=>by rw[hm,b6,F6,F6,T7,D1h]
 rw[ev];have c9:o≠bk:=fun e=>by rw[←e,c7]at b8;cases b8
 have M:(Cs.set bk (.box [.fm (D2 tt K)])) o=some (.box (C1 F)):=by rw[A2 _ c9];exact c7
 have b0:H.Le (Cs.set bk (.box [.fm (D2 tt K)])):=a9.trans (A0 b8);generalize Cs.set bk (.box [.fm (D2 tt K)])=Ds at M b0⊢;have hlen:(Rw j9 [nB,nX]).length=2:=rfl;repeat' simp only[go_sem,seval,hlen]
 refine C8 [5,7,8,31,32] (fun(p:Nat×Option Nat×Heap)=>[(33,.int .i64 p.1),(6,H8 2 p.1 p.2.1)]) (fun(p:Nat×Option Nat×Heap)=>p.2.2) (fun(p:Nat×Option Nat×Heap)=>p.1≤2∧p.2.2 o=some (.box (C1 (C9z p.1)))∧OutIn H 2 (Rw vlC (fxVals.take p.1)) p.2.1 p.2.2) (fun(p:Nat×Option Nat×Heap)=>2-p.1) ((0,none,Ds)) (⟨D1c _,by show Ds o=_;rw[M,←hF];rfl,b0,rfl,fun _ e=>(by cases e)⟩) (by(try simp only[go_sem,seval])<;>(try simp(disch:=omega) [A4])) (by first|exact D2i _|exact A0 (by assumption)|exact B9 (by assumption)|simp only[Heap.Le,Heap.set,Heap.del]at* <;>grind) ?_;rintro Ec rfl ⟨k,ob,Hp⟩ ⟨hk,G,O⟩;simp only at hk G O
 match k,hk,G,O with
 |0,hk,G,O=>
  have r0:(Rw j9 [nB,nX]).getD 0 []= [.str nB]:=rfl;repeat' (first|with_reducible apply D1H|simp only[go_sem,seval,r0,G,A2Z,if_pos b4.1]|(intro j;try simp only[A5]at j)|omega)
  rename_i m q x hx r;have u:=j;clear j;have c7: ∀X:Av.Obj,((Hp.set m (.box [.str nB,.int .i64 0])).set r X) o=some (.box (C1 fxF)):=fun X=>by
   rw[A2 _ (fun e=>by rw[←e,G]at u;cases u.2.2),A2 _ (fun e=>by rw[←e,G]at q;cases q)];exact G
  have d0: ∀X:Av.Obj,((Hp.set m (.box [.str nB,.int .i64 0])).set r X) m=some (.box [.str nB,.int .i64 0]):=fun X=>by
   rw[A2 _ (fun e=>by rw[e]at u;exact u.2.1 rfl)];exact A3 _ _
  have d2:=(O.set q (.box [.str nB,.int .i64 0])).set (b:=r) (A5.2 ⟨u.2.1,u.2.2⟩);refine C2E [(5,.fm (D2 tt (J2 (D1 F)))),(7,.box o 0),(8,.fn (.func 74) [] [.box o 0]),(31,.sl 1 (Rw j9 [nB,nX])),(32,.int .i64 2),(33,.int .i64 0),(6,H8 2 0 ob),(10,.str nB),(11,.box m 0),(12,.box r 0)] ((Hp.set m (.box [.str nB,.int .i64 0])).set r (.box (noW (.sl 7 [vW])))) (A8F (cs:=noW (.vec x 7 0 1)) (by(try simp only[go_sem,seval])<;>(try simp(disch:=omega) [A4])) (A5.2 hx) u.1 rfl (fun i d d' h1 h2=>?_)) ?_
  ·match i with
   |0=>cases h1;cases h2;exact .same _
   |1=>cases h1;cases h2;exact .same _
   |2=>cases h1;cases h2;exact .same _
   |3=>cases h1;cases h2;exact .same _
   |4=>cases h1;cases h2;exact .same _
   |5=>cases h1;cases h2;exact .same _
   |6=>cases h1;cases h2;exact .all
   |i+7=>cases h1
  have M:=c7 (.box (noW (.sl 7 [vW])));have I:=d0 (.box (noW (.sl 7 [vW])));have d12:((Hp.set m (.box [.str nB,.int .i64 0])).set r (.box (noW (.sl 7 [vW])))) r=some (.box (noW (.sl 7 [vW]))):=A3 _ _;have T:=d2 (.box (noW (.sl 7 [vW])));have U:o≠m:=fun e=>by rw[←e,G]at q;cases q
  generalize (Hp.set m (.box [.str nB,.int .i64 0])).set r (.box (noW (.sl 7 [vW])))=W at M I d12 T⊢;repeat' (first|simp only[go_sem,seval,d12]|with_reducible refine C2F fxF o W M ?_)
  refine A0b 3 ?_;refine A30 fxS (X3 _ A.2.2.2.2.1).1 (X3 _ A.2.2.2.2.1).2 [] (by simp) true b3 _ ?_;repeat' (first|simp only[go_sem,seval,M,I,d12,B79]|simp(disch:=first|omega|grind) only[A8]|(intro j;try simp only[A5]at j)|with_reducible refine C2F fxF o W M ?_)
  rename_i y;have hy:(W.set o (.box (C1 (A1B [fxF,A4m])))) y=none:=A5.2 j;clear j;have f7:(W.set o (.box (C1 (A1B [fxF,A4m])))) o=some (.box (C1 (A1B [fxF,A4m]))):=A3 _ _;have J:=A32 T c4 M (.box (C1 (A1B [fxF,A4m])));generalize W.set o (.box (C1 (A1B [fxF,A4m])))=Gt at f7 hy J⊢;refine B3I (J.set hy _) (by simp) rfl (by simp) (by simp) fun b' b9 c0 c5=>?_;obtain⟨g7,V⟩:=A8G (c:=[.str nB,.int .i64 0]) J f7 hy b9 c0;repeat' (first|simp only[go_sem,seval]|simp(disch:=omega) only[A4,B4])
  exact C4 (1,some b',_) ⟨by simp,g7,V⟩ (by simp) (by(try simp only[go_sem,seval])<;>(try simp(disch:=omega) [A4])) (D2i _)
 |1,hk,G,O=>
  have r1:(Rw j9 [nB,nX]).getD 1 []= [.str nX]:=rfl;repeat' (first|with_reducible apply D1H|simp only[go_sem,seval,r1,G,A2Z,if_neg b4.2]|(intro j;try simp only[A5]at j)|omega)
  rename_i m;have q:=j;clear j;have U:o≠m:=fun e=>by rw[←e,G]at q;cases q
  have M:(Hp.set m (.box [.str nX,.int .i64 0])) o=some (.box (C1 fxS)):=by rw[A2 _ U];exact G
  have I:(Hp.set m (.box [.str nX,.int .i64 0])) m=some (.box [.str nX,.int .i64 0]):=A3 _ _;have T:=O.set q (.box [.str nX,.int .i64 0]);generalize Hp.set m (.box [.str nX,.int .i64 0])=W at M I T⊢;refine B4z (fun more=>X1 fxS more) nX A6z.2.2 77 [.box o 0] W (fun more bb d3 d6 e6 H' Q d4 hq=>B8C fxS (X3 _ A.2.2.2.2.1).1 (X3 _ A.2.2.2.2.1).2 more (by omega) bb d3 o H' (d4 _ _ M) hq) 1 b2 ?_;repeat' (first|simp only[go_sem,seval,I]|simp(disch:=omega) only[A4,B4]|simp(disch:=first|omega|grind) only[A8]|(intro j;try simp only[A5]at j))
  rename_i z;have hz:=j;clear j;have c6:H m=none:=O.1.none q;have f7:(W.set m (.box [.str nX,.int .i64 1])) o=some (.box (C1 fxS)):=by rw[A2 _ U];exact M
  have f11:(W.set m (.box [.str nX,.int .i64 1])) m=some (.box [.str nX,.int .i64 1]):=A3 _ _;have J:=A32 T c6 I (.box [.str nX,.int .i64 1]);refine A5U (A3 _ _) rfl ?_;rw[E9 (A5.2 hz)];generalize W.set m (.box [.str nX,.int .i64 1])=Gt at f7 f11 J⊢;refine A4k ⟨[⟨nX,1⟩],-1,true⟩ _ ?_;repeat' simp only[go_sem,seval]
  refine B1S fxS A5B o Gt f7 ?_;repeat' (first|simp only[go_sem,seval,f7,f11,B79]|simp(disch:=first|omega|grind) only[A8]|(intro j;try simp only[A5]at j))
  rename_i y;have hy:(Gt.set o (.box (C1 (A1B [fxS,A5B])))) y=none:=A5.2 j;clear j;have g7:(Gt.set o (.box (C1 (A1B [fxS,A5B])))) o=some (.box (C1 (A1B [fxS,A5B]))):=A3 _ _;have V:=A32 J c4 f7 (.box (C1 (A1B [fxS,A5B])));generalize Gt.set o (.box (C1 (A1B [fxS,A5B])))=Gu at g7 hy V⊢;refine B3I (V.set hy _) (by simp) rfl (by simp) (by simp) fun b' b9 c0 c5=>?_;obtain⟨k7,d5⟩:=A8G (c:=[.str nX,.int .i64 1]) V g7 hy b9 c0;repeat' (first|simp only[go_sem,seval]|simp(disch:=omega) only[A4,B4])
  exact C4 (2,some b',_) ⟨by simp,k7,d5⟩ (by simp) (by(try simp only[go_sem,seval])<;>(try simp(disch:=omega) [A4])) (D2i _)
 |2,hk,G,O=>
  repeat' (first|with_reducible apply D1H|simp only[go_sem,seval]|simp(disch:=omega) only[A4,B4]|(intro j;try simp only[A5]at j)|omega)
  have e2:fxVals.take 2=fxVals:=rfl;rw[e2]at O;refine Fin.out1 (n:=2) rfl O.2.1 (D2j O.le h)
 |k+3,hk,_,_=>omega
theorem B8E{Q}(vs:List VlV)(k:Fm)(b:Nat)(H:Heap)(hb:H b=some (.box [.sl 2 (Rw vlC vs)]))(o: ∀(Q:D→Heap→Prop) (H:Heap),Q (.bool (Q1 k vs)) H→D7 63 [.agg (C1 k),.sl 2 (Rw vlC vs)] H Q)(h:Q (.bool (!Q1 k vs)) H):D7 109 [.agg (C1 k),.box b 0] H Q:=by
 refine A9 [] A6 Tryz.func109 rfl ?_;simp only[go_sem,seval,Tryz.results109];intro i m;have n2:b≠i:=fun e=>by rw[←e,hb]at m;cases m
 have e1:(H.set i (.box (C1 k))) b=some (.box [.sl 2 (Rw vlC vs)]):=by rw[A2 _ n2];exact hb
 have e2:(H.set i (.box (C1 k))) i=some (.box (C1 k)):=A3 _ _;have j:H.Le (H.set i (.box (C1 k))):=A0 m;generalize H.set i (.box (C1 k))=Bs at e1 e2 j⊢;repeat' (first|simp only[go_sem,seval,e1,e2]|with_reducible refine o _ _ ?_)
 exact D2j j h
theorem B8F{Q}(vs:List VlV)(k:Fm)(b:Nat)(H:Heap)(hb:H b=some (.box [.sl 2 (Rw vlC vs)]))(o: ∀(Q:D→Heap→Prop) (H:Heap),Q (.bool (Q1 k vs)) H→D7 63 [.agg (C1 k),.sl 2 (Rw vlC vs)] H Q)(h:Q (.bool (Q1 k vs)) H):D7 110 [.agg (C1 k),.box b 0] H Q:=by
 refine A9 [] A6 Tryz.func110 rfl ?_;simp only[go_sem,seval,Tryz.results110];intro i m;have n2:b≠i:=fun e=>by rw[←e,hb]at m;cases m
 have e1:(H.set i (.box (C1 k))) b=some (.box [.sl 2 (Rw vlC vs)]):=by rw[A2 _ n2];exact hb
 have e2:(H.set i (.box (C1 k))) i=some (.box (C1 k)):=A3 _ _;have j:H.Le (H.set i (.box (C1 k))):=A0 m;generalize H.set i (.box (C1 k))=Bs at e1 e2 j⊢;repeat' (first|simp only[go_sem,seval,e1,e2]|with_reducible refine o _ _ ?_)
 exact D2j j h
theorem B8G(l:List Fm)(p:Fm→Bool):(!l.any fun k=> !p k)=l.all p:=by
 induction l with
 |nil=>rfl
 |cons x l h=>rw[D2M,D2K,←h];cases p x<;>simp
theorem C0l(vs:List VlV)(M:A7e vs)(hv:N2 vs=true)(n:Nat): ∀{Q} (f:Fm) (hn:SizeOf.sizeOf f≤n) (u:J1 E3 f=true) (x:FmFit f) (H:Heap) (h:Q (.bool (Q1 f vs)) H),D7 63 [.agg (C1 f),.sl 2 (Rw vlC vs)] H Q:=by
 induction n with
 |zero=>intro Q f hn;cases f;simp at hn
 |succ n O=>
 intro Q f hn u x H h;refine A9 [] A6 Tryz.func63 rfl ?_;simp only[go_sem,seval,Tryz.results63];have r:=x.kl;have U:=M.len;have i: ∀k∈f.ks,∀(Q:D→Heap→Prop) (H:Heap),Q (.bool (Q1 k vs)) H→D7 63 [.agg (C1 k),.sl 2 (Rw vlC vs)] H Q:=fun k hk Q H hq=>O k (by have:=A0Z hk;omega) (S7 u hk) (x.kid hk) H hq;intro q V o y;simp only[A5]at y;have A:q≠o:=fun e=>y.1 e.symm;have e2:((H.set q (.box (C1 f))).set o (.box [.sl 2 (Rw vlC vs)])) q=some (.box (C1 f)):=by rw[A2 _ A,A3]
 have e3:((H.set q (.box (C1 f))).set o (.box [.sl 2 (Rw vlC vs)])) o=some (.box [.sl 2 (Rw vlC vs)]):=A3 _ _;have j:H.Le ((H.set q (.box (C1 f))).set o (.box [.sl 2 (Rw vlC vs)])):=(A0 V).trans (A0 (by simp only[A5];exact y));generalize (H.set q (.box (C1 f))).set o (.box [.sl 2 (Rw vlC vs)])=Bs at e2 e3 j⊢;cases Z1 u with
 |con m hm=>
  rw[C9t _ rfl]at h;simp only[Fm.n]at h;repeat' simp only[go_sem,seval,e2]
  exact D2j j h
 |lin l hl hp=>
  rw[C9u _ rfl]at h;simp only[Fm.l]at h;obtain⟨T,K,E⟩:=l;have J:=fun(Q:D→Heap→Prop) (H:Heap)=>B98 (Q:=Q) ⟨T,K,E⟩ hl vs hv (by omega) H;generalize (U1 K T vs).getD 0=z at h J;unfold B2C at h;repeat' (first|with_reducible apply D1H|simp only[go_sem,seval,e2,e3]|(intro I;try simp only[A5]at I)|with_reducible refine J _ _ ?_)
  all_goals (refine D2j j ?_;simp_all)
 |var s hp=>
  rw[C9v _ rfl]at h;simp only[Fm.s]at h;repeat' (first|simp only[go_sem,seval,e2,e3]|with_reducible refine B0v vs hv s (by omega) _ ?_)
  exact D2j j h
 |not k=>
  rw[C9w _ rfl rfl]at h;have W:(Rw C1 [k]).getD 0 []=C1 k:=rfl;have X:=i k (D1S ..);repeat' (first|with_reducible apply D1H|simp only[go_sem,seval,e2,e3,W]|with_reducible refine X _ _ ?_|omega)
  all_goals first
   |exact D2j j h
   |decide
   |omega
 |and ks=>
  rw[C9x _ rfl]at h;simp only[Fm.ks]at h i r;have Y:=A6m (Q:=fun d G=>d= .bool (ks.any fun k=> !Q1 k vs)∧G=Bs) (fun k=> !Q1 k vs) ks (by omega) 109 [] [.box o 0] Bs (fun k hk _ Q hq=>B8E vs ks[k] o Bs e3 (i _ (D1V hk)) hq) ⟨rfl,rfl⟩;have p: ∀(Q:D→Heap→Prop),Q (.bool (ks.any fun k=> !Q1 k vs)) Bs→D7 108 [.sl 7 (Rw C1 ks),.fn (.func 109) [] [.box o 0]] Bs Q:=fun Q hq=>Y.mono fun d G ⟨h1,h2⟩=>by rw[h1,h2];exact hq
  rw[←B8G]at h;repeat' (first|simp only[go_sem,seval,e2,e3]|with_reducible refine p _ ?_)
  exact D2j j h
 |or ks=>
  rw[C9y _ rfl]at h;simp only[Fm.ks]at h i r;have p:=fun(Q:D→Heap→Prop)=>A6m (Q:=Q) (fun k=>Q1 k vs) ks (by omega) 110 [] [.box o 0] Bs (fun k hk _ Q hq=>B8F vs ks[k] o Bs e3 (i _ (D1V hk)) hq);repeat' (first|simp only[go_sem,seval,e2,e3]|with_reducible refine p _ ?_)
  exact D2j j h
theorem C0m{Q}(vs:List VlV)(i:A7e vs)(hv:N2 vs=true)(f:Fm)(j:J1 E3 f=true)(m:FmFit f)(H:Heap)(h:Q (.bool (Q1 f vs)) H):D7 63 [.agg (C1 f),.sl 2 (Rw vlC vs)] H Q:=C0l vs i hv _ f (D1b _) j m H h
theorem C90{Q}(f:Fm)(fa:FmFit f)(vo:VOk f)(vs:List VlV)(fv:A7e vs)(H:Heap)(h:Q (.tuple [.bool (atF f vs).1,.int .i64 (atF f vs).2]) H):D7 22 [.agg (C1 f),.sl 2 (Rw vlC vs)] H Q:=by
 refine A9 [] A6 Tryz.func22 rfl ?_;simp only[go_sem,seval,Tryz.results22];have d3:=fv.len;intro V g2;have e2:(H.set V (.box (C1 f))) V=some (.box (C1 f)):=A3 _ _;have O:H.Le (H.set V (.box (C1 f))):=A0 g2;generalize H.set V (.box (C1 f))=Bs at e2 O⊢;have vc:=fun(Q:D→Heap→Prop) (H:Heap)=>P3 (Q:=Q) f fa vo H;have wc:=fun(Q:D→Heap→Prop) (H:Heap)=>B6h (Q:=Q) vs fv H;unfold atF at h;cases hf:D8 f with
 |false=>
  rw[hf]at h vc;simp only[D1X,false_and,if_false]at h;repeat' (first|simp only[go_sem,seval,e2]|with_reducible refine vc _ _ ?_)
  exact D2j O h
 |true=>
  cases hv:N2 vs with
  |false=>
   rw[hf]at h vc;rw[hv]at h wc;simp only[D1X,and_false,if_false]at h;repeat' (first|simp only[go_sem,seval,e2]|with_reducible refine vc _ _ ?_|with_reducible refine wc _ _ ?_)
   exact D2j O h
  |true=>
   rw[hf]at h vc;rw[hv]at h wc;simp only[and_self,if_true]at h;have b6: ∀m,(D.fm m).cells= [D.fm m]:=fun _=>rfl;repeat' (first|simp only[go_sem,seval,e2,b6]|intro p|with_reducible refine vc _ _ ?_|with_reducible refine wc _ _ ?_|with_reducible refine A3y (by assumption) f fa rfl ?_)
   rename_i A;have W:=p;clear p;have y:H.Le (Bs.set A (.vec 1 [[.fm (D2 tt (J2 (D9 f)))],[.fm (D2 tt (J2 (D1 f)))]])):=O.trans (A0 W);have n2:V≠A:=fun e=>by rw[←e,e2]at W;cases W
   have c2:(Bs.set A (.vec 1 [[.fm (D2 tt (J2 (D9 f)))],[.fm (D2 tt (J2 (D1 f)))]])) V=some (.box (C1 f)):=by rw[A2 _ n2];exact e2
   have a0:(Bs.set A (.vec 1 [[.fm (D2 tt (J2 (D9 f)))],[.fm (D2 tt (J2 (D1 f)))]])) A=some (.vec 1 [[.fm (D2 tt (J2 (D9 f)))],[.fm (D2 tt (J2 (D1 f)))]]):=A3 _ _;generalize Bs.set A (.vec 1 [[.fm (D2 tt (J2 (D9 f)))],[.fm (D2 tt (J2 (D1 f)))]])=Cs at c2 a0 y⊢;refine C8 [1,2,7,32,33] (fun(j:Nat)=>[(34,.int .i64 j)]) (fun(j:Nat)=>Cs) (fun(j:Nat)=>j≤2∧(0<j→∀s∈D9 f,(P1 vs s).isSome=true)∧(1<j→∀s∈D1 f,(P1 vs s).isSome=true)) (fun(j:Nat)=>2-j) (0) (⟨D1c _,fun h=>absurd h (by decide),fun h=>absurd h (by decide)⟩) (by(try simp only[go_sem,seval])<;>(try simp(disch:=omega) [A4])) (by first|exact D2i _|exact A0 (by assumption)|exact B9 (by assumption)|simp only[Heap.Le,Heap.set,Heap.del]at* <;>grind) ?_;rintro Ec rfl j ⟨hj,a6,b7⟩;by_cases b8:j<2
   ·have X:decide ((j:Int)<2)=true:=D1J (by omega);have b9:(j:Int)<2:=by omega
    obtain⟨ks,J,a9,c0,c4⟩: ∃ks:List ByteArray,([[D.fm (D2 tt (J2 (D9 f)))],[.fm (D2 tt (J2 (D1 f)))]]).getD j []= [.fm (D2 tt ks)]∧([[D.fm (D2 tt (J2 (D9 f)))],[.fm (D2 tt (J2 (D1 f)))]])[j]? =some [.fm (D2 tt ks)]∧
      ((∀s∈ks,(P1 vs s).isSome=true)→(0<j+1→∀s∈D9 f,(P1 vs s).isSome=true)∧(1<j+1→∀s∈D1 f,(P1 vs s).isSome=true))∧(∀s∈ks,(P1 vs s).isSome=false→A6r f vs=false):=by
     match j,b8 with
     |0,_=>exact⟨J2 (D9 f),rfl,rfl,fun h=>⟨fun _ s hs=>h s ((F6 _ _).2 hs),fun h=>absurd h (by decide)⟩,fun s hs hn=>by
       rw[←D2d,A4l];intro g;rw[g s (.inl ((F6 _ _).1 hs))]at hn;cases hn⟩
     |1,_=>exact⟨J2 (D1 f),rfl,rfl,fun h=>⟨fun _=>a6 (by decide),fun _ s hs=>h s ((F6 _ _).2 hs)⟩,fun s hs hn=>by
       rw[←D2d,A4l];intro g;rw[g s (.inr ((F6 _ _).1 hs))]at hn;cases hn⟩
    have u:(D2 tt ks).length=ks.length:=by simp[D2]
    repeat' (first|with_reducible apply D1H|simp only[go_sem,seval,X,b9,a0,J,a9]|intro p|omega)
    rename_i G;have b0:=p;clear p;refine C8 [1,2,7,32,33,34,39] (fun(s:List Nat)=>[]) (fun(s:List Nat)=>Cs.set G (.rng (D2 tt ks) s)) (fun(s:List Nat)=>∀(i:Nat) (o:i<ks.length),i∈s→(P1 vs ks[i]).isSome=true) (fun(s:List Nat)=>A6n ks.length s) ([]) (fun _ _ h=>absurd h D1k) (by simp only[go_sem,seval]) (by first|exact D2i _|exact A0 (by assumption)|exact B9 (by assumption)|simp only[Heap.Le,Heap.set,Heap.del]at* <;>grind) ?_;rintro c5 rfl s hs;have c6:(Cs.set G (.rng (D2 tt ks) s)) G=some (.rng (D2 tt ks) s):=A3 _ _;repeat' simp only[go_sem,seval,c6]
    refine A8l (fun i o hn=>?_) (fun M=>?_)
    ·rw[u]at o;have eg:((Cs.set G (.rng (D2 tt ks) s)).set G (.rng (D2 tt ks) (s++[i]))) G=some (.rng (D2 tt ks) (s++[i])):=A3 _ _;have ek:(D2 tt ks)[i]? =some (.str ks[i],.bool true):=by simp[D2,o]
     have I:(D2 tt ks)[i]'(by rw[u];exact o)=(.str ks[i],.bool true):=by simp[D2]
     have T:=fun(Q:D→Heap→Prop) (H:Heap)=>B0v (Q:=Q) vs hv ks[i] (by omega) H;cases hg:(P1 vs ks[i]).isSome with
     |true=>
      rw[hg]at T;repeat' (first|simp only[go_sem,seval,eg,ek,I,List.getLast?_concat]|with_reducible refine T _ _ ?_)
      refine C4 (s++[i]) (fun q hq hm=>?_) (A2A o hn) (by simp only[go_sem,seval]) (D2i _);rcases D1h.1 hm with z|z
      ·exact hs q hq z
      ·rw[D1i]at z;subst z;exact hg
     |false=>
      rw[hg]at T;rw[c4 _ (D1V o) hg]at h;simp only[D1X,if_false]at h;repeat' (first|simp only[go_sem,seval,eg,ek,I,List.getLast?_concat]|with_reducible refine T _ _ ?_)
      refine D2j ?_ h;refine y.trans ?_;exact A0 b0
    ·have c7: ∀s∈ks,(P1 vs s).isSome=true:=fun x hx=>by
      obtain⟨i,o,rfl⟩:=List.getElem_of_mem hx;exact hs i o (M i (by rw[u];exact o))
     repeat' (first|simp only[go_sem,seval]|simp(disch:=omega) only[A4,B4])
     exact C4 (j+1) ⟨by omega,c0 c7⟩ (by omega) (by(try simp only[go_sem,seval])<;>(try simp(disch:=omega) [A4])) (A0 b0)
   ·have X:decide ((j:Int)<2)=false:=D1K (by omega);have c8:A6r f vs=true:=(A4l f vs).2 fun s hs=>hs.elim (a6 (by omega) s) (b7 (by omega) s);rw[c8]at h;simp only[if_true]at h;obtain⟨ks,J⟩: ∃ks,ks=J2 (D1 f):=⟨_,rfl⟩
    have u:(D2 tt ks).length=ks.length:=by simp[D2]
    rw[←J];repeat' (first|with_reducible apply D1H|simp only[go_sem,seval,X]|intro p|omega)
    rename_i r;have U:=p;clear p;refine C8 [1,2,54] (fun(s:List Nat)=>[]) (fun(s:List Nat)=>Cs.set r (.rng (D2 tt ks) s)) (fun(s:List Nat)=>∀(i:Nat) (o:i<ks.length),i∈s→((P1 vs ks[i]).getD 0=0∨(P1 vs ks[i]).getD 0=1)) (fun(s:List Nat)=>A6n ks.length s) ([]) (fun _ _ h=>absurd h D1k) (by simp only[go_sem,seval]) (by first|exact D2i _|exact A0 (by assumption)|exact B9 (by assumption)|simp only[Heap.Le,Heap.set,Heap.del]at* <;>grind) ?_;rintro c5 rfl s hs;have c9:(Cs.set r (.rng (D2 tt ks) s)) r=some (.rng (D2 tt ks) s):=A3 _ _;have d0:V≠r:=fun e=>by rw[←e,c2]at U;cases U
    have b1:(Cs.set r (.rng (D2 tt ks) s)) V=some (.box (C1 f)):=by rw[A2 _ d0];exact c2
    repeat' simp only[go_sem,seval,c9]
    refine A8l (fun i o hn=>?_) (fun M=>?_)
    ·rw[u]at o;have eg:((Cs.set r (.rng (D2 tt ks) s)).set r (.rng (D2 tt ks) (s++[i]))) r=some (.rng (D2 tt ks) (s++[i])):=A3 _ _;have ek:(D2 tt ks)[i]? =some (.str ks[i],.bool true):=by simp[D2,o]
     have I:(D2 tt ks)[i]'(by rw[u];exact o)=(.str ks[i],.bool true):=by simp[D2]
     have T:=fun(Q:D→Heap→Prop) (H:Heap)=>B0v (Q:=Q) vs hv ks[i] (by omega) H;obtain⟨v,Y⟩: ∃v,v=(P1 vs ks[i]).getD 0:=⟨_,rfl⟩
     rw[←Y]at T;have b3:(v=0∨v=1)→∀(j:Nat) (hj:j<ks.length),j∈s++[i]→((P1 vs ks[j]).getD 0=0∨(P1 vs ks[j]).getD 0=1):=fun b4 q hq hm=>by
      rcases D1h.1 hm with z|z
      ·exact hs q hq z
      ·rw[D1i]at z;subst z;rw[←Y];exact b4
     by_cases v0:v=0
     ·repeat' (first|simp only[go_sem,seval,eg,ek,I,List.getLast?_concat,v0]|with_reducible refine T _ _ ?_)
      exact C4 (s++[i]) (b3 (.inl v0)) (A2A o hn) (by simp only[go_sem,seval]) (by simp only[F0,D3,D4]at* <;>grind)
     ·by_cases v1:v=1
      ·repeat' (first|simp only[go_sem,seval,eg,ek,I,List.getLast?_concat,v1]|with_reducible refine T _ _ ?_)
       exact C4 (s++[i]) (b3 (.inr v1)) (A2A o hn) (by simp only[go_sem,seval]) (by simp only[F0,D3,D4]at* <;>grind)
      ·have hb:Go.Fo.bits f vs=false:=by
        rw[←D2d,B1I];intro g;have:=g ks[i] ((F6 _ _).1 (by rw[←J];exact D1V o));rw[←Y]at this;omega
       rw[hb]at h;simp only[D1X,if_false]at h;repeat' (first|simp only[go_sem,seval,eg,ek,I,List.getLast?_concat,v0,v1]|with_reducible refine T _ _ ?_)
       refine D2j ?_ h;refine y.trans ?_;exact A0 U
    ·have hb:Go.Fo.bits f vs=true:=(B1I f vs).2 fun x hx=>by
      have d2:x∈ks:=by rw[J];exact(F6 _ _).2 hx
      obtain⟨i,o,rfl⟩:=List.getElem_of_mem d2;exact hs i o (M i (by rw[u];exact o))
     rw[hb]at h;simp only[if_true]at h;repeat' (first|simp only[go_sem,seval,b1]|with_reducible refine C0m vs fv hv f (M0 hf) fa _ ?_)
     exact D2j (y.trans (A0 U)) h
end Go.Proofs.YtibphjonmikciaaGreatDoor
namespace Go.Av
theorem A2H{b sz:Nat}{es:List (List D)}{d:D}{H H':Heap}{Q:D→Heap→Prop}(hb:H b=some (.vec sz es))
  (G: ∀k o',H' k=some o'→k≠b∧∃o,H k=some o∧OFz b sz es o o') (h:Fin Q d H'):Fin Q d H:=by
 unfold Fin at h⊢;obtain⟨Y,d1,h1,y⟩:=h;refine⟨Y,d1,Shift.trans (fun w v hr hs=>?_) h1,y⟩;have m: ∀k,H.held k=false→H'.held k=false:=fun k hk=>by
  cases ho:H' k with
  |none=>exact G7 ho
  |some o'=>
   obtain⟨_,o,h1,y⟩:=G k o' ho;rw[I1 h1]at hk;rw[I1 ho];cases y<;>exact hk
 have I: ∀{d d':D} {v:Value},Fz b sz es d d'→R w H d v→R w H' d' v:=fun u hr=>(u.R hs hb hr).mono (D2p _ _) fun k _ hk=>by
  by_cases z:k=b
  ·subst z;cases ho:H' k with
   |none=>exact G7 ho
   |some o'=>exact absurd rfl (G k o' ho).1
  ·refine m k ?_;rw[←l9 (H:=H) (H':=H.del b) (k:=k) (by unfold Heap.del;rw[if_neg z])];exact hk
 refine⟨I (.same d) hr,fun k o' ho=>?_,m⟩;obtain⟨_,o,h1,y⟩:=G k o' ho;have x:=hs k o h1;cases y with
 |same=>exact x.mono (D2p H w) (fun k _ hk=>m k hk) rfl
 |box cs cs' Z hl u=>
  obtain⟨c,T,lo,J,M,O,W,A,U⟩:=x;refine⟨c,T,lo,J,M,O,by omega,fun j d' q=>?_,U⟩;have hj:=(D1R.1 q).1;have hd:cs[j]? =some (cs[j]'(by omega)):=D1Y _;have r:=u j _ _ hd q;exact⟨r.one (A j _ hd).1,I r (A j _ hd).2⟩
 |vec s xs xs' hl u=>
  obtain⟨c,T,lo,J,M,O,W,A,U,X⟩:=x;refine⟨c,T,lo,J,M,O,W,by rw[←hl];exact A,fun i x' p=>?_,fun i x' j d' p q=>?_⟩
  ·have V:=(D1R.1 p).1;have hx:xs[i]? =some (xs[i]'(by omega)):=D1Y _;rw[←(u i _ _ hx p).1];exact U i _ hx
  ·have V:=(D1R.1 p).1;have hx:xs[i]? =some (xs[i]'(by omega)):=D1Y _;have hlen:=(u i _ _ hx p).1;have hj:=(D1R.1 q).1;have hd:(xs[i]'(by omega))[j]? =some ((xs[i]'(by omega))[j]'(by omega)):=D1Y _;have r:=(u i _ _ hx p).2 j _ _ hd q;exact⟨r.one (X i _ j _ hx hd).1,I r (X i _ j _ hx hd).2⟩
def fzD(b sz:Nat)(es:List (List D)):D→D→Prop
 |d,d'=>d=d'∨(d= .vec b sz 0 es.length∧d'= .sl sz es)
theorem C4b{b sz:Nat}{es:List (List D)}{d d':D}(h:fzD b sz es d d'):Fz b sz es d d':=by
 rcases h with rfl|⟨rfl,rfl⟩
 ·exact .same _
 ·exact .all
def fzL(b sz:Nat)(es:List (List D)):List D→List D→Prop
 | [],[]=>True
 |d::l,d'::l'=>fzD b sz es d d'∧fzL b sz es l l'
 |_,_=>False
theorem A9P{b sz:Nat}{es:List (List D)}: ∀{l l':List D},fzL b sz es l l'→l.length=l'.length∧∀(i:Nat) d d',l[i]? =some d→l'[i]? =some d'→Fz b sz es d d'
 | [],[],_=>⟨rfl,fun i d d' h=>by cases h⟩
 |d::l,d'::l',h=>by
  obtain⟨h1,m⟩:=A9P h.2;refine⟨by rw[D1M,D1M,h1],fun i x x' hx j=>?_⟩;cases i with
  |zero=>cases hx;cases j;exact C4b h.1
  |succ i=>exact m i x x' hx j
 | [],_::_,h=>h.elim
 |_::_,[],h=>h.elim
def fzV(b sz:Nat)(es:List (List D)):List (List D)→List (List D)→Prop
 | [],[]=>True
 |d::l,d'::l'=>fzL b sz es d d'∧fzV b sz es l l'
 |_,_=>False
theorem A9Q{b sz:Nat}{es:List (List D)}: ∀{l l':List (List D)},fzV b sz es l l'→l.length=l'.length∧∀(i:Nat) x x',l[i]? =some x→l'[i]? =some x'→x.length=x'.length∧∀(j:Nat) d d',x[j]? =some d→x'[j]? =some d'→Fz b sz es d d'
 | [],[],_=>⟨rfl,fun i d d' h=>by cases h⟩
 |d::l,d'::l',h=>by
  obtain⟨h1,o⟩:=A9Q h.2;refine⟨by rw[D1M,D1M,h1],fun i x x' hx m=>?_⟩;cases i with
  |zero=>cases hx;cases m;exact A9P h.1
  |succ i=>exact o i x x' hx m
 | [],_::_,h=>h.elim
 |_::_,[],h=>h.elim
theorem A2g{b sz c s:Nat}{es xs xs':List (List D)}{H G:Heap}(hc:H c=some (.vec s xs))(h:c≠b)(i:fzV b sz es xs xs')(j: ∀k o',G k=some o'→k≠b∧∃o,H k=some o∧OFz b sz es o o'):
  ∀k o',(G.set c (.vec s xs')) k=some o'→k≠b∧∃o,H k=some o∧OFz b sz es o o':=by
 intro k o' hk;by_cases e:k=c
 ·subst e;rw[A3]at hk;cases hk;exact⟨h,_,hc,.vec _ _ _ (A9Q i).1 (A9Q i).2⟩
 ·rw[A2 _ e]at hk;exact j k o' hk
theorem B8H{b sz:Nat}{es:List (List D)}{H G:Heap}(h:G.Le H)(hb:G b=none): ∀k o',G k=some o'→k≠b∧∃o,H k=some o∧OFz b sz es o o':=fun k o' hk=>⟨fun e=>(by rw[e,hb]at hk;cases hk),o',h k o' hk,.same _⟩
def nlD:D→D→Prop
 |d,d'=>d=d'∨NilR d d'
def nlL:List D→List D→Prop
 | [],[]=>True
 |d::l,d'::l'=>nlD d d'∧nlL l l'
 |_,_=>False
theorem A5l: ∀{l l':List D},nlL l l'→l.length=l'.length∧∀(i:Nat) d d',l[i]? =some d→l'[i]? =some d'→NilR d d'
 | [],[],_=>⟨rfl,fun i d d' h=>by cases h⟩
 |d::l,d'::l',h=>by
  obtain⟨h1,m⟩:=A5l h.2;refine⟨by rw[D1M,D1M,h1],fun i x x' hx j=>?_⟩;cases i with
  |zero=>cases hx;cases j;rcases h.1 with rfl|q;exact .same _;exact q
  |succ i=>exact m i x x' hx j
 | [],_::_,h=>h.elim
 |_::_,[],h=>h.elim
def nlV:List (List D)→List (List D)→Prop
 | [],[]=>True
 |d::l,d'::l'=>nlL d d'∧nlV l l'
 |_,_=>False
theorem A5m: ∀{l l':List (List D)},nlV l l'→l.length=l'.length∧∀(i:Nat) x x',l[i]? =some x→l'[i]? =some x'→x.length=x'.length∧∀(j:Nat) d d',x[j]? =some d→x'[j]? =some d'→NilR d d'
 | [],[],_=>⟨rfl,fun i d d' h=>by cases h⟩
 |d::l,d'::l',h=>by
  obtain⟨h1,o⟩:=A5m h.2;refine⟨by rw[D1M,D1M,h1],fun i x x' hx m=>?_⟩;cases i with
  |zero=>cases hx;cases m;exact A5l h.1
  |succ i=>exact o i x x' hx m
 | [],_::_,h=>h.elim
 |_::_,[],h=>h.elim
theorem B8I{z:Nat}{es es':List (List D)}(h:nlV es es'):NilR (.sl z es) (.sl z es'):=
 .sl z es es' (A5m h).1 (fun i e e' h1 m=>((A5m h).2 i e e' h1 m).1) fun i e e' j d d' h1 m o p=>((A5m h).2 i e e' h1 m).2 j d d' o p
theorem C4c{cs cs':List D}(h:nlL cs cs'):NilR (.agg cs) (.agg cs'):=.agg _ _ (A5l h).1 (A5l h).2
end Go.Av
namespace Go.Proofs.YtibphjonmikciaaGreatDoor
open Go Go.Av Go.Lexs Go.Lin Go.Fo
attribute [local irreducible] ACalls S9
theorem A8H{Q}(H:Heap)(h:Q (.agg (C1 fxF)) H):D7 44 [] H Q:=by
 refine A9 [] A6 Tryz.func44 rfl ?_;simp only[go_sem,seval,Tryz.results44];repeat' (first|simp only[go_sem,seval]|simp(disch:=first|omega|grind) only[A8,D0]|(intro r;try simp only[A5]at r))
 rename_i G O a T p hp q hq d1 h1 i I j;have y:=r;clear r;have m:a≠G∧a≠p∧a≠q∧a≠d1∧a≠i∧a≠j:=⟨T.1,hp.1.symm,hq.2.1.symm,h1.2.2.1.symm,I.2.2.2.1.symm,y.2.2.2.2.1.symm⟩
 have nd:d1≠G∧d1≠i∧d1≠j:=⟨h1.2.2.2.1,I.1.symm,y.2.1.symm⟩
 have ne:i≠G∧i≠j:=⟨I.2.2.2.2.1,y.1.symm⟩
 have nf:j≠G:=y.2.2.2.2.2.1;have W:H a=none:=T.2;have U:H d1=none:=h1.2.2.2.2;have J:H i=none:=I.2.2.2.2.2;have X:H p=none:=hp.2.2;have Y:H q=none:=hq.2.2.2;have M:H j=none:=y.2.2.2.2.2.2;clear T hp hq h1 I y;refine A2H (b:=a) (sz:=2) (es:=[[.str ⟨#[120]⟩,.int .i64 1]]) (by rw[A2 _ m.1,A2 _ m.2.2.2.2.2,A2 _ m.2.2.2.2.1,A2 _ m.2.2.2.1,A2 _ m.2.2.1,A2 _ m.2.1,A3]) (H':=((H.set d1 (.vec 7 [[.int .i64 3,.int .i64 0,.nilsl,.int .i64 0,.bool false,.str ⟨#[98]⟩,.nilsl]])).set i (.vec 7 ([[.int .i64 2,.int .i64 0,.sl 2 [[.str ⟨#[120]⟩,.int .i64 1]],.int .i64 (-3),.bool true,.str ⟨#[]⟩,.nilsl],[.int .i64 4,.int .i64 0,.nilsl,.int .i64 0,.bool false,.str ⟨#[]⟩,.vec d1 7 0 1]]))).set j (.vec 7 ([[.int .i64 2,.int .i64 0,.sl 2 [[.str ⟨#[120]⟩,.int .i64 1]],.int .i64 (-1),.bool false,.str ⟨#[]⟩,.nilsl],[.int .i64 6,.int .i64 0,.nilsl,.int .i64 0,.bool false,.str ⟨#[]⟩,.vec i 7 0 2]]))) ?_ ?_
 ·refine A2g (xs:=[[.int .i64 2,.int .i64 0,.vec a 2 0 1,.int .i64 (-1),.bool false,.str ⟨#[]⟩,.nilsl],[.int .i64 6,.int .i64 0,.nilsl,.int .i64 0,.bool false,.str ⟨#[]⟩,.vec i 7 0 2]]) (by rw[A2 _ nf,A3]) m.2.2.2.2.2.symm (by simp[fzV,fzL,fzD]) (A2g (xs:=[[.int .i64 2,.int .i64 0,.vec a 2 0 1,.int .i64 (-3),.bool true,.str ⟨#[]⟩,.nilsl],[.int .i64 4,.int .i64 0,.nilsl,.int .i64 0,.bool false,.str ⟨#[]⟩,.vec d1 7 0 1]]) (by rw[A2 _ ne.1,A2 _ ne.2,A3]) m.2.2.2.2.1.symm (by simp[fzV,fzL,fzD]) (A2g (xs:=[[.int .i64 3,.int .i64 0,.nilsl,.int .i64 0,.bool false,.str ⟨#[98]⟩,.nilsl]]) (by rw[A2 _ nd.1,A2 _ nd.2.2,A2 _ nd.2.1,A3]) m.2.2.2.1.symm (by simp[fzV,fzL,fzD]) (B8H ?_ W)));intro k o hk;by_cases V:k=G
  ·rw[V,O]at hk;cases hk
  ·have A: ∀x,H x=none→k≠x:=fun x hx e=>by rw[e,hx]at hk;cases hk
   rw[A2 _ V,A2 _ (A _ M),A2 _ (A _ J),A2 _ (A _ U),A2 _ (A _ Y),A2 _ (A _ X),A2 _ (A _ W),A2 _ V];exact hk
 refine A2H (b:=d1) (sz:=7) (es:=[[.int .i64 3,.int .i64 0,.nilsl,.int .i64 0,.bool false,.str ⟨#[98]⟩,.nilsl]]) (by rw[A2 _ nd.2.2,A2 _ nd.2.1,A3]) (H':=(H.set i (.vec 7 ([[.int .i64 2,.int .i64 0,.sl 2 [[.str ⟨#[120]⟩,.int .i64 1]],.int .i64 (-3),.bool true,.str ⟨#[]⟩,.nilsl],[.int .i64 4,.int .i64 0,.nilsl,.int .i64 0,.bool false,.str ⟨#[]⟩,.sl 7 [[.int .i64 3,.int .i64 0,.nilsl,.int .i64 0,.bool false,.str ⟨#[98]⟩,.nilsl]]]]))).set j (.vec 7 ([[.int .i64 2,.int .i64 0,.sl 2 [[.str ⟨#[120]⟩,.int .i64 1]],.int .i64 (-1),.bool false,.str ⟨#[]⟩,.nilsl],[.int .i64 6,.int .i64 0,.nilsl,.int .i64 0,.bool false,.str ⟨#[]⟩,.vec i 7 0 2]]))) ?_ ?_
 ·refine A2g (xs:=[[.int .i64 2,.int .i64 0,.sl 2 [[.str ⟨#[120]⟩,.int .i64 1]],.int .i64 (-1),.bool false,.str ⟨#[]⟩,.nilsl],[.int .i64 6,.int .i64 0,.nilsl,.int .i64 0,.bool false,.str ⟨#[]⟩,.vec i 7 0 2]]) (A3 _ _) nd.2.2.symm (by simp[fzV,fzL,fzD]) (A2g (xs:=[[.int .i64 2,.int .i64 0,.sl 2 [[.str ⟨#[120]⟩,.int .i64 1]],.int .i64 (-3),.bool true,.str ⟨#[]⟩,.nilsl],[.int .i64 4,.int .i64 0,.nilsl,.int .i64 0,.bool false,.str ⟨#[]⟩,.vec d1 7 0 1]]) (by rw[A2 _ ne.2,A3]) nd.2.1.symm (by simp[fzV,fzL,fzD]) (B8H ?_ U));exact(A0 U).trans ((A0 (by rw[A2 _ nd.2.1.symm];exact J)).trans (A0 (by rw[A2 _ ne.2.symm,A2 _ nd.2.2.symm];exact M)))
 refine A2H (b:=i) (sz:=7) (es:=[[.int .i64 2,.int .i64 0,.sl 2 [[.str ⟨#[120]⟩,.int .i64 1]],.int .i64 (-3),.bool true,.str ⟨#[]⟩,.nilsl],[.int .i64 4,.int .i64 0,.nilsl,.int .i64 0,.bool false,.str ⟨#[]⟩,.sl 7 [[.int .i64 3,.int .i64 0,.nilsl,.int .i64 0,.bool false,.str ⟨#[98]⟩,.nilsl]]]]) (by rw[A2 _ ne.2,A3]) (H':=H.set j (.vec 7 ([[.int .i64 2,.int .i64 0,.sl 2 [[.str ⟨#[120]⟩,.int .i64 1]],.int .i64 (-1),.bool false,.str ⟨#[]⟩,.nilsl],[.int .i64 6,.int .i64 0,.nilsl,.int .i64 0,.bool false,.str ⟨#[]⟩,.sl 7 ([[.int .i64 2,.int .i64 0,.sl 2 [[.str ⟨#[120]⟩,.int .i64 1]],.int .i64 (-3),.bool true,.str ⟨#[]⟩,.nilsl],[.int .i64 4,.int .i64 0,.nilsl,.int .i64 0,.bool false,.str ⟨#[]⟩,.sl 7 [[.int .i64 3,.int .i64 0,.nilsl,.int .i64 0,.bool false,.str ⟨#[98]⟩,.nilsl]]]])]]))) ?_ ?_
 ·refine A2g (xs:=[[.int .i64 2,.int .i64 0,.sl 2 [[.str ⟨#[120]⟩,.int .i64 1]],.int .i64 (-1),.bool false,.str ⟨#[]⟩,.nilsl],[.int .i64 6,.int .i64 0,.nilsl,.int .i64 0,.bool false,.str ⟨#[]⟩,.vec i 7 0 2]]) (A3 _ _) ne.2.symm (by simp[fzV,fzL,fzD]) (B8H ?_ J);exact(A0 J).trans (A0 (by rw[A2 _ ne.2.symm];exact M))
 refine R0 (b:=j) (sz:=7) (es:=[[.int .i64 2,.int .i64 0,.sl 2 [[.str ⟨#[120]⟩,.int .i64 1]],.int .i64 (-1),.bool false,.str ⟨#[]⟩,.nilsl],[.int .i64 6,.int .i64 0,.nilsl,.int .i64 0,.bool false,.str ⟨#[]⟩,.sl 7 ([[.int .i64 2,.int .i64 0,.sl 2 [[.str ⟨#[120]⟩,.int .i64 1]],.int .i64 (-3),.bool true,.str ⟨#[]⟩,.nilsl],[.int .i64 4,.int .i64 0,.nilsl,.int .i64 0,.bool false,.str ⟨#[]⟩,.sl 7 [[.int .i64 3,.int .i64 0,.nilsl,.int .i64 0,.bool false,.str ⟨#[98]⟩,.nilsl]]]])]]) (cs':=[.int .i64 5,.int .i64 0,.nilsl,.int .i64 0,.bool false,.str ⟨#[]⟩,.sl 7 ([[.int .i64 2,.int .i64 0,.sl 2 [[.str ⟨#[120]⟩,.int .i64 1]],.int .i64 (-1),.bool false,.str ⟨#[]⟩,.nilsl],[.int .i64 6,.int .i64 0,.nilsl,.int .i64 0,.bool false,.str ⟨#[]⟩,.sl 7 ([[.int .i64 2,.int .i64 0,.sl 2 [[.str ⟨#[120]⟩,.int .i64 1]],.int .i64 (-3),.bool true,.str ⟨#[]⟩,.nilsl],[.int .i64 4,.int .i64 0,.nilsl,.int .i64 0,.bool false,.str ⟨#[]⟩,.sl 7 [[.int .i64 3,.int .i64 0,.nilsl,.int .i64 0,.bool false,.str ⟨#[98]⟩,.nilsl]]]])]])]) (A3 _ _) rfl (A9P (by simp[fzL,fzD])).2 ?_;refine E5 (d':=.agg (C1 fxF)) ?_ (D2j ?_ h)
 ·have e:C1 fxF= [.int .i64 5,.int .i64 0,.sl 2 [],.int .i64 0,.bool false,.str ⟨#[]⟩,.sl 7 ([[.int .i64 2,.int .i64 0,.sl 2 [[.str ⟨#[120]⟩,.int .i64 1]],.int .i64 (-1),.bool false,.str ⟨#[]⟩,.sl 7 []],[.int .i64 6,.int .i64 0,.sl 2 [],.int .i64 0,.bool false,.str ⟨#[]⟩,.sl 7 ([[.int .i64 2,.int .i64 0,.sl 2 [[.str ⟨#[120]⟩,.int .i64 1]],.int .i64 (-3),.bool true,.str ⟨#[]⟩,.sl 7 []],[.int .i64 4,.int .i64 0,.sl 2 [],.int .i64 0,.bool false,.str ⟨#[]⟩,.sl 7 [[.int .i64 3,.int .i64 0,.sl 2 [],.int .i64 0,.bool false,.str ⟨#[98]⟩,.sl 7 []]]]])]])]:=rfl;rw[e];have u: ∀z,NilR .nilsl (.sl z []):=NilR.nil;refine C4c ?_;refine⟨.inl rfl,.inl rfl,.inr (u _),.inl rfl,.inl rfl,.inl rfl,.inr (B8I ?_),trivial⟩;refine⟨⟨.inl rfl,.inl rfl,.inl rfl,.inl rfl,.inl rfl,.inl rfl,.inr (u _),trivial⟩,⟨.inl rfl,.inl rfl,.inr (u _),.inl rfl,.inl rfl,.inl rfl,.inr (B8I ?_),trivial⟩,trivial⟩;refine⟨⟨.inl rfl,.inl rfl,.inl rfl,.inl rfl,.inl rfl,.inl rfl,.inr (u _),trivial⟩,⟨.inl rfl,.inl rfl,.inr (u _),.inl rfl,.inl rfl,.inl rfl,.inr (B8I ?_),trivial⟩,trivial⟩;exact⟨⟨.inl rfl,.inl rfl,.inr (u _),.inl rfl,.inl rfl,.inl rfl,.inr (u _),trivial⟩,trivial⟩
 ·intro k o hk;have:k≠j:=fun e=>by rw[e,M]at hk;cases hk
  show ((H.set j _).del j) k=_;rw[D0 this,A2 _ this];exact hk
theorem A2C(f:Fm)(z:FmFit f): ∀{Q:D→Heap→Prop} (H:Heap) (h:Q (.bool true) H),D7 21 [.agg (C1 f),.agg (C1 f)] H Q:=by
 induction z with
 |mk o n l s ks ho hn hl hs hk O A=>
 intro Q H h;have e:C1 (.mk o n l s ks)= [.int .i64 o,.int .i64 n,.sl 2 (Rw J7 l.t),.int .i64 l.k,.bool l.e,.str s,.sl 7 (Rw C1 ks)]:=I6 _;rw[e];refine A9 [(6,.par)] A6 Tryz.func21 rfl ?_;simp only[go_sem,seval,Tryz.results21];intro m G p x;simp only[A5]at x;have e2:((H.set m (.box [.int .i64 o,.int .i64 n,.sl 2 (Rw J7 l.t),.int .i64 l.k,.bool l.e,.str s,.sl 7 (Rw C1 ks)])).set p (.box [.int .i64 o,.int .i64 n,.sl 2 (Rw J7 l.t),.int .i64 l.k,.bool l.e,.str s,.sl 7 (Rw C1 ks)])) m=some (.box [.int .i64 o,.int .i64 n,.sl 2 (Rw J7 l.t),.int .i64 l.k,.bool l.e,.str s,.sl 7 (Rw C1 ks)]):=by rw[A2 _ x.1.symm,A3]
 have e3:((H.set m (.box [.int .i64 o,.int .i64 n,.sl 2 (Rw J7 l.t),.int .i64 l.k,.bool l.e,.str s,.sl 7 (Rw C1 ks)])).set p (.box [.int .i64 o,.int .i64 n,.sl 2 (Rw J7 l.t),.int .i64 l.k,.bool l.e,.str s,.sl 7 (Rw C1 ks)])) p=some (.box [.int .i64 o,.int .i64 n,.sl 2 (Rw J7 l.t),.int .i64 l.k,.bool l.e,.str s,.sl 7 (Rw C1 ks)]):=A3 _ _;have r:H.Le ((H.set m (.box [.int .i64 o,.int .i64 n,.sl 2 (Rw J7 l.t),.int .i64 l.k,.bool l.e,.str s,.sl 7 (Rw C1 ks)])).set p (.box [.int .i64 o,.int .i64 n,.sl 2 (Rw J7 l.t),.int .i64 l.k,.bool l.e,.str s,.sl 7 (Rw C1 ks)])):=(A0 G).trans (A0 (by simp only[A5];exact x));generalize (H.set m (.box [.int .i64 o,.int .i64 n,.sl 2 (Rw J7 l.t),.int .i64 l.k,.bool l.e,.str s,.sl 7 (Rw C1 ks)])).set p (.box [.int .i64 o,.int .i64 n,.sl 2 (Rw J7 l.t),.int .i64 l.k,.bool l.e,.str s,.sl 7 (Rw C1 ks)])=Bs at e2 e3 r⊢;have I:m∈[m,p]:=by simp
 have J:p∈[m,p]:=by simp
 have hc: ∀{Q:D→Heap→Prop} (H:Heap) (h:Q (.bool true) H),D7 60 [.agg [.sl 2 (Rw J7 l.t),.int .i64 l.k,.bool l.e],.agg [.sl 2 (Rw J7 l.t),.int .i64 l.k,.bool l.e]] H Q:=fun H h=>C0F l hl H h;repeat' (first|simp only[go_sem,seval,e2,e3]|with_reducible refine hc _ ?_)
 refine C8 [2,3,44] (fun(i:Nat)=>[(45,.int .i64 i)]) (fun(i:Nat)=>Bs) (fun(i:Nat)=>i≤ks.length) (fun(i:Nat)=>ks.length-i) (0) (D1c _) (by(try simp only[go_sem,seval])<;>(try simp(disch:=omega) [A4])) (by first|exact D2i _|exact A0 (by assumption)|exact B9 (by assumption)|simp only[Heap.Le,Heap.set,Heap.del]at* <;>grind) ?_;rintro T rfl i U;by_cases j:i<ks.length
 ·have q:decide ((i:Int)<ks.length)=true:=D1J (by omega);have u:(i:Int)<ks.length:=by omega
  have y: ∀{Q:D→Heap→Prop} (H:Heap) (h:Q (.bool true) H),D7 21 [.agg (C1 ks[i]),.agg (C1 ks[i])] H Q:=A ks[i] (D1V j);repeat' simp only[go_sem,seval,q,u,B3 _ _ j,C3 _ _ j]
  refine F9 (fun M=>if M=10 then .bool true else .undef) [m,p] ?_;repeat' (first|with_reducible apply D1H|simp only[go_sem,seval,q,u,B3 _ _ j,C3 _ _ j,e2,e3,I,J]|simp(disch:=omega) only[A4,B3,B4]|with_reducible refine R5 (fun H' Q hro hq=>y H' hq) ?_|omega)
  exact C4 (i+1) (by omega) (by omega) (by(try simp only[go_sem,seval])<;>(try simp(disch:=omega) [A4])) (by simp only[F0,D3,D4]at* <;>grind)
 ·have q:decide ((i:Int)<ks.length)=false:=D1K (by omega);repeat' simp only[go_sem,seval,q]
  exact D2j r h
theorem C0p{Q}(l:List VlV)(p:A7e l)(H:Heap)(h:Q (.bool true) H):D7 35 [.sl 2 (Rw vlC l),.sl 2 (Rw vlC l)] H Q:=by
 refine A9 [(6,.par)] A6 Tryz.func35 rfl ?_;simp only[go_sem,seval,Tryz.results35];have hlen:=p.len;refine C8 [0,1,12] (fun(i:Nat)=>[(13,.int .i64 i)]) (fun(i:Nat)=>H) (fun(i:Nat)=>i≤l.length) (fun(i:Nat)=>l.length-i) (0) (D1c _) (by(try simp only[go_sem,seval])<;>(try simp(disch:=omega) [A4])) (by first|exact D2i _|exact A0 (by assumption)|exact B9 (by assumption)|simp only[Heap.Le,Heap.set,Heap.del]at* <;>grind) ?_;rintro q rfl i r;by_cases j:i<l.length
 ·have m:decide ((i:Int)<l.length)=true:=D1J (by omega);have o:(i:Int)<l.length:=by omega
  repeat' simp only[go_sem,seval,m,o,B3 _ _ j,C3 _ _ j]
  refine F9 (fun u=>.undef) [] ?_;repeat' (first|with_reducible apply D1H|simp only[go_sem,seval,m,o,B3 _ _ j,C3 _ _ j]|simp(disch:=omega) only[A4,B3,B4]|omega)
  exact C4 (i+1) (by omega) (by omega) (by(try simp only[go_sem,seval])<;>(try simp(disch:=omega) [A4])) (by simp only[F0,D3,D4]at* <;>grind)
 ·have m:decide ((i:Int)<l.length)=false:=D1K (by omega);repeat' simp only[go_sem,seval,m]
  exact D2m h
end Go.Proofs.YtibphjonmikciaaGreatDoor
namespace Go.Fo
open Go Go.Av Go.Lexs Go.Lin
theorem RdS.same{H H':Heap}{br:Nat}{r:List UInt8}{bad:Bool}(h:RdS H H' br r bad)(hb:H br=some (.box [.str (S r),.bool bad])):H'=H:=by
 funext k
 by_cases e:k=br
 ·rw[e,h.here,hb]
 ·exact h.els k e
theorem A1e{H m H':Heap}{br h:Nat}{r:List UInt8}{bad:Bool}(s:RdS m H' br r bad)(i:(H.del br).Le m)(p:H h=none)(j:br≠h)(V:Av.Obj):(H.set br (.box [.str (S r),.bool bad])).Le (H'.set h V):=fun k o hk=>by
 by_cases e:k=br
 ·subst e;rw[A3]at hk;rw[A2 _ j,s.here];exact hk
 ·rw[A2 _ e]at hk;have q:k≠h:=fun e=>by rw[e,p]at hk;cases hk
  rw[A2 _ q,s.els k e];exact i k o (by rw[D0 e];exact hk)
theorem C0q{H m H':Heap}{br i x:Nat}{r:List UInt8}{bad:Bool}(s:RdS m H' br r bad)(h:(H.del br).Le m)(u:H i=none)(j:br≠i)(hx:H' x=none)(o1 V:Av.Obj):(H.set br (.box [.str (S r),.bool bad])).Le (((H'.set x o1).set i V).del x):=fun k o hk=>by
 have h1:=A1e s h u j V k o hk;have p:k≠x:=fun e=>by
  by_cases e2:k=br
  ·rw[←e,e2,s.here]at hx;cases hx
  ·rw[A2 _ e2]at hk;have:=h k o (by rw[D0 e2];exact hk);rw[←s.els k e2,e,hx]at this;cases this
 rw[D0 p];by_cases q:k=i
 ·subst q;rw[A3]at h1⊢;exact h1
 ·rw[A2 _ q]at h1⊢;rw[A2 _ p];exact h1
theorem A8I(r:List UInt8):Q6 r=r.drop (L9 r).length:=by
 have h:L9 r++Q6 r=r:=List.takeWhile_append_dropWhile
 conv=>rhs;rw[←h]
 rw[List.drop_left' (by rw[h])]
theorem B5F{h:List UInt8→Fm×List UInt8×Bool}(m: ∀r,∃j,(h r).2.1=r.drop j): ∀n r out,∃j,(A08 h n r out).2.1=r.drop j:=by
 intro n
 induction n with
 |zero=>intro r out;exact⟨0,rfl⟩
 |succ n o=>
  intro r out;obtain⟨j,i⟩:=m r;rw[A08];split
  ·exact⟨j+1,by show (h r).2.1.drop 1=_;rw[i,D2R]⟩
  ·split
   ·exact⟨j,i⟩
   ·split
    ·obtain⟨k,hk⟩:=o ((h r).2.1.drop 2) (out++[(h r).1]);exact⟨j+(2+k),by rw[hk,i,D2R,D2R]⟩
    ·exact⟨j,i⟩
theorem B5G: ∀e r,∃j,(G5 e r).2.1=r.drop j:=by
 intro e
 induction e with
 |zero=>intro r;exact⟨0,rfl⟩
 |succ e i=>
  intro r;have hl: ∀k,∃j,(Y0 (G5 e) (r.drop k)).2.1=r.drop j:=fun k=>by
   unfold Y0;split
   ·exact⟨k+1,by show (r.drop k).drop 1=_;rw[D2R]⟩
   ·obtain⟨j,h⟩:=B5F i ((r.drop k).length+1) (r.drop k) [];exact⟨k+j,by rw[h,D2R]⟩
  rw[G5];split
  ·exact⟨1+(L9 (r.drop 1)).length,by show Q6 (r.drop 1)=_;rw[A8I,D2R]⟩
  ·split
   ·obtain⟨j,h⟩:=i (r.drop 1);exact⟨1+j,by show (G5 e (r.drop 1)).2.1=_;rw[h,D2R]⟩
   ·split
    ·exact hl 2
    ·split
     ·exact hl 2
     ·exact⟨_,A8I r⟩
end Go.Fo
namespace Go.Proofs.YtibphjonmikciaaGreatDoor
open Go Go.Av Go.Lexs Go.Lin Go.Fo
attribute [local irreducible] ACalls S9
theorem A9R(w:List UInt8)(l:List UInt8):(S w=⟨l.toArray⟩)=(w=l):=propext ⟨fun h=>C6B h,fun h=>by rw[h];rfl⟩
theorem C4d:A8E 0:=by
 intro Q br r hr hx H y hb h;have u:((61:Int)-(0:Nat))=61:=by omega
 rw[u];refine A9 [] A6 Tryz.func71 rfl ?_;simp only[go_sem,seval,Tryz.results71];intro j o;have m:br≠j:=fun e=>by rw[←e,hb]at o;cases o
 have p:(H.set j (.box [.int .i64 0,.int .i64 0,.nilsl,.int .i64 0,.bool false,.str ⟨#[]⟩,.nilsl])) br=some (.box [.str (S r),.bool false]):=by rw[A2 _ m];exact hb
 have q:(H.set j (.box [.int .i64 0,.int .i64 0,.nilsl,.int .i64 0,.bool false,.str ⟨#[]⟩,.nilsl])) j=some (.box [.int .i64 0,.int .i64 0,.nilsl,.int .i64 0,.bool false,.str ⟨#[]⟩,.nilsl]):=A3 _ _;have i:(H.del br).Le (H.set j (.box [.int .i64 0,.int .i64 0,.nilsl,.int .i64 0,.bool false,.str ⟨#[]⟩,.nilsl])):=(E6 _ _).trans (A0 o);generalize H.set j (.box [.int .i64 0,.int .i64 0,.nilsl,.int .i64 0,.bool false,.str ⟨#[]⟩,.nilsl])=Bs at p q i⊢;have x:(Bs.set br (.box [.str (S r),.bool true])) j=some (.box [.int .i64 0,.int .i64 0,.nilsl,.int .i64 0,.bool false,.str ⟨#[]⟩,.nilsl]):=by rw[A2 _ m.symm];exact q
 repeat' simp only[go_sem,seval,p,x]
 exact E5 (A4d 0 0 0 false D5) (D2j (A1e (RdS.set Bs br r true) i o m _) (h _ (RdS.set _ _ _ _)))
set_option maxHeartbeats 4000000 in
theorem C4e(e:Nat)(he:e+1≤60)(hF:A8E e):A8E (e+1):=by
 intro Q br r hr hx H hT hb h;obtain⟨dp,c6⟩: ∃dp:Int,dp=61-((e+1:Nat):Int):=⟨_,rfl⟩
 have d4:1≤dp:=by omega
 have d5:dp≤60:=by omega
 have W:IntKind.i64.wrap (dp+1)=61-(e:Int):=by rw[A4 (by omega) (by omega)];omega
 rw[←c6];refine A9 [] A6 Tryz.func71 rfl ?_;simp only[go_sem,seval,Tryz.results71];intro q A;have i:br≠q:=fun e=>by rw[←e,hb]at A;cases A
 obtain⟨Z,hZ⟩: ∃Z:List D,Z= [.int .i64 0,.int .i64 0,.nilsl,.int .i64 0,.bool false,.str ⟨#[]⟩,.nilsl]:=⟨_,rfl⟩
 rw[←hZ];have e4:(H.set q (.box Z)) q=some (.box Z):=A3 _ _;have G:(H.set q (.box Z)) br=some (.box [.str (S r),.bool false]):=by rw[A2 _ i];exact hb
 have b0:H.Le (H.set q (.box Z)):=A0 A;have j:(H.del br).Le (H.set q (.box Z)):=(E6 _ _).trans b0;generalize H.set q (.box Z)=Bs at e4 G b0 j⊢;have X:(H.del br) br=none:=by simp[Heap.del]
 have tb: ∀{Hx:Heap} {r':List UInt8} {bd:Bool},RdS Bs Hx br r' bd→Tabs Hx:=fun s=>hT.rd hb (s.le j X);have b1:B (⟨#[63]⟩:ByteArray)= [63]:=rfl;have b2:B (⟨#[33]⟩:ByteArray)= [33]:=rfl;have b3:B (⟨#[38,40]⟩:ByteArray)= [38,40]:=rfl;have U:B (⟨#[124,40]⟩:ByteArray)= [124,40]:=rfl;have c7:(⟨#[63]⟩:ByteArray).size=1:=rfl;have c8:(⟨#[33]⟩:ByteArray).size=1:=rfl;have c9:(⟨#[38,40]⟩:ByteArray).size=2:=rfl;have b7:(⟨#[124,40]⟩:ByteArray).size=2:=rfl;have d0: ¬60<dp:=by omega
 have V:=fun(r:List UInt8) (_:r.length≤20000)=>B5G e r;rw[G5]at h;repeat' (first|with_reducible apply D1H|simp only[go_sem,seval,G,d0])
 refine A3H br ⟨#[63]⟩ r false Bs G fun H1 M=>?_;rw[b1,c7]at M;rw[b1];cases p1:pre [63] r with
 |true=>
  rw[p1]at h M;simp only[if_true]at h M;repeat' simp only[go_sem,seval]
  refine B3w br (r.drop 1) false (by rw[D1p];omega) (hx 1) H1 M.here fun H2 u=>?_;have b8:=M.trans u;have m:=b8.keep e4 i.symm;rw[hZ]at m;repeat' simp only[go_sem,seval,m]
  exact E5 (A4d 3 0 0 false _) (D2j (A1e b8 j A i _) (h _ (RdS.set _ _ _ _)))
 |false=>
  rw[p1]at h M;simp only[D1X,if_false]at h M;have hs:=M.same G;subst hs;clear M;repeat' simp only[go_sem,seval]
  refine A3H br ⟨#[33]⟩ r false _ G fun H2 u=>?_;rw[b2,c8]at u;rw[b2];cases p2:pre [33] r with
  |true=>
   rw[p2]at h u;simp only[if_true]at h u;repeat' simp only[go_sem,seval,W]
   refine hF _ br (r.drop 1) (by rw[D1p];omega) (A2f hx 1) H2 (tb u) u.here fun H3 y=>?_;have b9:=u.trans y;have m:=b9.keep e4 i.symm;rw[hZ]at m;repeat' (first|simp only[go_sem,seval,m]|simp(disch:=first|omega|grind) only[A8]|intro p)
   rename_i x;have Y:=p;clear p;refine A9A (ob:=some x) (ks:=[(G5 e (r.drop 1)).1]) rfl (?_:(Heap.set _ q _) x=_) (D2j (C0q b9 j A i Y _ _) (h _ (RdS.set _ _ _ _)));have d2:x≠q:=fun e=>by rw[e,m]at Y;cases Y
   rw[A2 _ d2];exact A3 _ _
  |false=>
   rw[p2]at h u;simp only[D1X,if_false]at h u;have hs:=u.same G;subst hs;clear u;repeat' simp only[go_sem,seval]
   refine A3H br ⟨#[38,40]⟩ r false _ G fun H3 y=>?_;rw[b3,c9]at y;rw[b3];cases p3:pre [38,40] r with
   |true=>
    rw[p3]at h y;simp only[if_true]at h y;repeat' simp only[go_sem,seval,W]
    refine B78 e (by omega) hF br (r.drop 2) (by rw[D1p];omega) (A2f hx 2) H3 (tb y) y.here V fun H4 z=>?_;have c0:=y.trans z;have m:=c0.keep e4 i.symm;rw[hZ]at m;repeat' simp only[go_sem,seval,m]
    exact E5 (B2K 5 0 0 false D5 _) (D2j (A1e c0 j A i _) (h _ (RdS.set _ _ _ _)))
   |false=>
    rw[p3]at h y;simp only[D1X,if_false]at h y;have hs:=y.same G;subst hs;clear y;repeat' simp only[go_sem,seval]
    refine A3H br ⟨#[124,40]⟩ r false _ G fun H4 z=>?_;rw[U,b7]at z;rw[U];cases p4:pre [124,40] r with
    |true=>
     rw[p4]at h z;simp only[if_true]at h z;repeat' simp only[go_sem,seval,W]
     refine B78 e (by omega) hF br (r.drop 2) (by rw[D1p];omega) (A2f hx 2) H4 (tb z) z.here V fun H5 J=>?_;have c2:=z.trans J;have m:=c2.keep e4 i.symm;rw[hZ]at m;repeat' simp only[go_sem,seval,m]
     exact E5 (B2K 6 0 0 false D5 _) (D2j (A1e c2 j A i _) (h _ (RdS.set _ _ _ _)))
    |false=>
     rw[p4]at h z;simp only[D1X,if_false]at h z;have hs:=z.same G;subst hs;clear z;repeat' simp only[go_sem,seval]
     have c4:=hx 0;rw[List.drop_zero]at c4;refine B3w br r false (by omega) c4 _ G fun H5 J=>?_;have m:=J.keep e4 i.symm;rw[hZ]at m;have d6:=A6v r;unfold A7H at h;by_cases w1:L9 r=A07
     ·rw[if_pos w1]at h;have O:L9 r= [116,114,117,101]:=w1;repeat' simp only[go_sem,seval,m,A9R,O]
      exact E5 (A4d 1 1 0 false D5) (D2j (A1e J j A i _) (h _ (RdS.set _ _ _ _)))
     ·rw[if_neg w1]at h;have O: ¬L9 r= [116,114,117,101]:=w1;by_cases w2:L9 r=flsB
      ·rw[if_pos w2]at h;have T:L9 r= [102,97,108,115,101]:=w2;have d3: ¬([102,97,108,115,101]:List UInt8)= [116,114,117,101]:=by decide
       repeat' simp only[go_sem,seval,m,A9R,T,d3]
       exact E5 (A4d 1 0 0 false D5) (D2j (A1e J j A i _) (h _ (RdS.set _ _ _ _)))
      ·rw[if_neg w2]at h;have T: ¬L9 r= [102,97,108,115,101]:=w2;obtain⟨⟨L,er⟩,c5⟩: ∃x,x=M9 (L9 r):=⟨_,rfl⟩
       have pc:=fun(Q:D→Heap→Prop) (H:Heap) (hT:Tabs H)=>C0L (Q:=Q) (S (L9 r)) (by rw[O6];omega) H hT;rw[v8,←c5]at pc;rw[←c5]at h;simp only at h pc;have r5:=J.here;by_cases e0:er=0
       ·have a0:decide (er≠0)=false:=by simp[e0]
        rw[a0]at h;repeat' (first|simp only[go_sem,seval,m,A9R,O,T,r5,e0]|simp(disch:=first|omega|grind) only[A8]|intro p|with_reducible refine pc _ _ (tb J) ?_)
        rename_i b6;have h6:=p;clear p;have a6:q≠b6:=fun e=>by rw[←e,m]at h6;cases h6
        have s6:=RdS.set (H5.set b6 (.box [.sl 2 (Rw J7 L.t),.int .i64 L.k,.bool L.e])) br (Q6 r) false;have a9:=s6.keep (b:=q) (by rw[A2 _ a6];exact m) i.symm;have I:=(J.le j X).trans (A0 (o:=.box [.sl 2 (Rw J7 L.t),.int .i64 L.k,.bool L.e]) h6);repeat' (first|simp only[go_sem,seval,a9]|with_reducible refine A4k L _ ?_)
        exact D2j (A1e s6 I A i _) (h _ (RdS.set _ _ _ _))
       ·have a0:decide (er≠0)=true:=by simp[e0]
        rw[a0]at h;repeat' (first|simp only[go_sem,seval,m,A9R,O,T,r5,e0]|simp(disch:=first|omega|grind) only[A8]|intro p|with_reducible refine pc _ _ (tb J) ?_)
        rename_i b6;have h6:=p;clear p;have a6:q≠b6:=fun e=>by rw[←e,m]at h6;cases h6
        have s6:=RdS.set (H5.set b6 (.box [.sl 2 (Rw J7 L.t),.int .i64 L.k,.bool L.e])) br (Q6 r) true;have a9:=s6.keep (b:=q) (by rw[A2 _ a6];exact m) i.symm;have I:=(J.le j X).trans (A0 (o:=.box [.sl 2 (Rw J7 L.t),.int .i64 L.k,.bool L.e]) h6);repeat' (first|simp only[go_sem,seval,a9]|with_reducible refine A4k L _ ?_)
        exact D2j (A1e s6 I A i _) (h _ (RdS.set _ _ _ _))
theorem C4f: ∀e,e≤60→A8E e:=by
 intro e
 induction e with
 |zero=>intro _;exact C4d
 |succ e h=>intro he;exact C4e e he (h (by omega))
theorem A33(n:Int):NilR (.tuple [.agg [.int .i64 0,.int .i64 0,.nilsl,.int .i64 0,.bool false,.str ⟨#[]⟩,.nilsl],.int .i64 n]) (.tuple [.agg (C1 zeroF),.int .i64 n]):=C3u (A4d 0 0 0 false D5)
theorem B1T{Q}(s:ByteArray)(hx:s.size≤20000→∀k,A6s ((B s).drop k))(H:Heap)(r:Tabs H)(h:Q (.tuple [.agg (C1 (A3F (B s)).1),.int .i64 (A3F (B s)).2]) H):D7 29 [.str s] H Q:=by
 refine A9 [] A6 Tryz.func29 rfl ?_;simp only[go_sem,seval,Tryz.results29];have a6:=a7 s;intro q u;obtain⟨Z,y⟩: ∃Z:List D,Z= [.int .i64 0,.int .i64 0,.nilsl,.int .i64 0,.bool false,.str ⟨#[]⟩,.nilsl]:=⟨_,rfl⟩
 rw[←y];have e2:(H.set q (.box Z)) q=some (.box Z):=A3 _ _;have m:H.Le (H.set q (.box Z)):=A0 u;generalize H.set q (.box Z)=Bs at e2 m⊢;have a9:=r.le m;unfold A3F at h;by_cases hl:(B s).length > 20000
 ·rw[if_pos hl]at h;have W:(20000:Int)<s.size:=by omega
  subst y;repeat' (first|with_reducible apply D1H|simp only[go_sem,seval,W,e2])
  exact E5 (A33 3) (D2j (by first|exact m|exact F3 m u) h)
 ·rw[if_neg hl]at h;have W: ¬(20000:Int)<s.size:=by omega
  have X:=C4f 60 (by omega);unfold A8E at X;rw[show ((61:Int)-(60:Nat))=1 by omega]at X;have hsz:=(B1M 60 (B s) (by omega))
  repeat' (first|with_reducible apply D1H|simp only[go_sem,seval,W]|intro o)
  rename_i br;have hr:=o;clear o;have er:(Bs.set br (.box [.str s,.bool false])) br=some (.box [.str (S (B s)),.bool false]):=by rw[A3,S_B]
  have nr:q≠br:=fun e=>by rw[←e,e2]at hr;cases hr
  have p:H.Le (Bs.set br (.box [.str s,.bool false])):=m.trans (A0 hr);have J:(Bs.set br (.box [.str s,.bool false])) q=some (.box Z):=by rw[A2 _ nr];exact e2
  have Y:H br=none:=m.none hr;generalize Bs.set br (.box [.str s,.bool false])=Cs at er J p⊢;refine X _ br (B s) (by omega) (hx (by omega)) _ (r.le p) er fun M O=>?_;obtain⟨⟨f1,r1,bad⟩,a0⟩: ∃x,x=G5 60 (B s):=⟨_,rfl⟩
  rw[←a0]at h hsz O⊢;simp only at h hsz O⊢;have T:=O.keep J nr;have U:=O.le p Y;have j:=O.here;repeat' (first|simp only[go_sem,seval]|simp(disch:=first|omega|grind) only[A8]|intro o)
  rename_i b5;have h5:=o;clear o;have n5:br≠b5∧q≠b5:=⟨fun e=>(by rw[←e,j]at h5;cases h5),fun e=>(by rw[←e,T]at h5;cases h5)⟩
  have V:(M.set b5 (.box (C1 f1))) b5=some (.box (C1 f1)):=A3 _ _;have z:(M.set b5 (.box (C1 f1))) br=some (.box [.str (S r1),.bool bad]):=by rw[A2 _ n5.1];exact j
  have I:(M.set b5 (.box (C1 f1))) q=some (.box Z):=by rw[A2 _ n5.2];exact T
  have i:H.Le (M.set b5 (.box (C1 f1))):=U.trans (A0 h5);generalize M.set b5 (.box (C1 f1))=Ds at V z I i⊢;cases bad with
  |true=>
   simp only[true_or,if_true]at h;subst y;repeat' simp only[go_sem,seval,j,z,I]
   exact E5 (A33 30) (D2j (by first|exact i|exact F3 i u) h)
  |false=>
   by_cases A:r1= []
   ·rw[A]at h z j;simp only[D1X,ne_eq,not_true,or_self,if_false]at h;unfold okF at h;have fo:=hsz.2.fit;have vo:VOk f1:=.inl (by have:=hsz.2.wt;omega);have G:=fun(Q:D→Heap→Prop) (H:Heap) (r:Tabs H)=>A5k (Q:=Q) f1 fo vo H r;have s0:S []=⟨#[]⟩:=rfl;cases hv:D8 f1 with
    |false=>
     rw[hv]at h G;simp only[D1X,false_and,if_false]at h G;subst y;repeat' (first|simp only[go_sem,seval,j,z,I,V,s0]|with_reducible refine G _ _ (r.le i) ?_)
     exact E5 (A33 30) (D2j (by first|exact i|exact F3 i u) h)
    |true=>
     rw[hv]at h G;simp only[true_and,if_true]at h G;by_cases ht:E4 f1=B s
     ·rw[if_pos ht]at h;subst y;repeat' (first|simp only[go_sem,seval,j,z,I,V,s0,ht]|with_reducible refine G _ _ (r.le i) ?_)
      exact D2j (F3 i u) h
     ·rw[if_neg ht]at h;subst y;repeat' (first|simp only[go_sem,seval,j,z,I,V,s0,ht]|with_reducible refine G _ _ (r.le i) ?_)
      exact E5 (A33 30) (D2j (by first|exact i|exact F3 i u) h)
   ·rw[if_pos (.inr A)]at h;subst y;repeat' simp only[go_sem,seval,j,z,I,A]
    exact E5 (A33 30) (D2j (by first|exact i|exact F3 i u) h)
end Go.Proofs.YtibphjonmikciaaGreatDoor
namespace Go.Fo
open Go Go.Av Go.Lexs Go.Lin
theorem B1U(l:List Fm)(p:Fm→Bool):(l.any fun f=> !p f)= !l.all p:=by
 induction l with
 |nil=>rfl
 |cons x l h=>rw[D2M,D2K,h,Bool.not_and]
theorem C0r{Q:D→Heap→Prop}{H:Heap}{n:Nat}{ob:Option Nat}{o m k x:Int}{e:Bool}{s:ByteArray}{ks:List Fm}(hn:n=ks.length)(ho:OutAt H 7 (Rw C1 ks) ob)(h:Fin Q (.tuple [.agg (C1 (.mk o m ⟨[],k,e⟩ s ks)),.int .i64 x]) (I3 H ob)):
  Fin Q (.tuple [.agg [.int .i64 o,.int .i64 m,.nilsl,.int .i64 k,.bool e,.str s,H8 7 n ob],.int .i64 x]) H:=by
 rw[Z0]at h;cases ob with
 |none=>
  have i:Rw C1 ks= []:=ho;refine E5 ?_ h;rw[i];exact C3u (B0o (.nil 2) (.nil 7))
 |some b=>
  have hb:H b=some (.vec 7 (Rw C1 ks)):=ho;subst hn;refine A5F (cs':=[.int .i64 o,.int .i64 m,.sl 2 [],.int .i64 k,.bool e,.str s,.sl 7 (Rw C1 ks)]) hb rfl (fz7 (.nil 2) ?_) h;show Fz b 7 (Rw C1 ks) (.vec b 7 0 ks.length) _;have:=Fz.all (b:=b) (sz:=7) (es:=Rw C1 ks);rwa [D6]at this
end Go.Fo
namespace Go.Proofs.YtibphjonmikciaaGreatDoor
open Go Go.Av Go.Lexs Go.Lin Go.Fo
attribute [local irreducible] ACalls S9
theorem B3z{Q}(f:Fm)(m:FmFit f)(o:VOk f)(H:Heap)(h:Q (.bool (!D8 f)) H):D7 113 [.agg (C1 f)] H Q:=by
 refine A9 [] A6 Tryz.func113 rfl ?_;simp only[go_sem,seval,Tryz.results113];intro j h1;have e1:(H.set j (.box (C1 f))) j=some (.box (C1 f)):=A3 _ _;have i:H.Le (H.set j (.box (C1 f))):=A0 h1;generalize H.set j (.box (C1 f))=Bs at e1 i⊢;repeat' (first|simp only[go_sem,seval,e1]|with_reducible refine P3 f m o _ ?_)
 exact D2j i h
theorem B8J{Q}(o:Int)(ho:o=5∨o=6)(l:List Fm)(fl: ∀f∈l,FmFit f)(hlen:l.length≤1466015503658)(vl: ∀f∈l,VOk f)(hw:l.all D8=true→J9.wtL l≤900000)(H:Heap)(h:Q (.tuple [.agg (C1 (bothF o l).1),.int .i64 (bothF o l).2]) H):D7 67 [.int .i64 o,.sl 7 (Rw C1 l)] H Q:=by
 refine A9 [(9,.par)] A6 Tryz.func67 rfl ?_;simp only[go_sem,seval,Tryz.results67];intro z g4;obtain⟨Z,X⟩: ∃Z:List D,Z= [.int .i64 0,.int .i64 0,.nilsl,.int .i64 0,.bool false,.str ⟨#[]⟩,.nilsl]:=⟨_,rfl⟩
 rw[←X];have U:(H.set z (.box Z)) z=some (.box Z):=A3 _ _;have G:H.Le (H.set z (.box Z)):=A0 g4;generalize H.set z (.box Z)=Bs at U G⊢;have Y: ∀x,H.Le (Bs.set z x):=fun x=>F3 G g4;have W:=fun(Q:D→Heap→Prop) (H:Heap)=>A6m (Q:=Q) (fun f=> !D8 f) l (by omega) 113 [] [] H (fun k hk _ Q hq=>B3z l[k] (fl _ (D1V hk)) (vl _ (D1V hk)) H hq);rw[B1U]at W;unfold bothF at h;cases hv:l.all D8 with
 |false=>
  rw[hv]at h W;simp only[D1X,if_false]at h;rw[X]at U;repeat' (first|simp only[go_sem,seval,U]|with_reducible refine W _ _ ?_)
  exact E5 (A6p 2) (D2j (Y _) h)
 |true=>
  rw[hv]at h W;simp only[if_true]at h;have hw:=hw hv;have nc:=fun(Q:D→Heap→Prop) (H:Heap)=>A5h (Q:=Q) l fl hlen H;have bc:=fun(Q:D→Heap→Prop) (H:Heap)=>A9H (Q:=Q) (J2 (D9.intsL l)) (J2 (D1.boolsL l)) H;rw[A0L (l':=D9.intsL l) (m':=D1.boolsL l) (fun x=>F6 _ _) (fun x=>F6 _ _)]at bc;cases hm:meetL (D9.intsL l) (D1.boolsL l)with
  |true=>
   rw[hm]at h bc;simp only[if_true]at h;rw[X]at U;repeat' (first|simp only[go_sem,seval,U]|with_reducible refine W _ _ ?_|with_reducible refine nc _ _ ?_|with_reducible refine bc _ _ ?_)
   exact E5 (A6p 15) (D2j (Y _) h)
  |false=>
   rw[hm]at h bc;simp only[D1X,if_false]at h;repeat' (first|simp only[go_sem,seval]|(intro r;try simp only[A5]at r)|with_reducible refine W _ _ ?_|with_reducible refine nc _ _ ?_|with_reducible refine bc _ _ ?_)
   rename_i u;have h6:=r;clear r;have a0:z≠u:=fun e=>by rw[←e,U]at h6;cases h6
   have c6:(Bs.set u (.box [.int .i64 o,.int .i64 0,.nilsl,.int .i64 0,.bool false,.str ⟨#[]⟩,.nilsl])) u=some (.box [.int .i64 o,.int .i64 0,.nilsl,.int .i64 0,.bool false,.str ⟨#[]⟩,.nilsl]):=A3 _ _;have c4:(Bs.set u (.box [.int .i64 o,.int .i64 0,.nilsl,.int .i64 0,.bool false,.str ⟨#[]⟩,.nilsl])) z=some (.box Z):=by rw[A2 _ a0];exact U
   have y:H.Le (Bs.set u (.box [.int .i64 o,.int .i64 0,.nilsl,.int .i64 0,.bool false,.str ⟨#[]⟩,.nilsl])):=G.trans (A0 h6);have a6:H u=none:=G.none h6;generalize Bs.set u (.box [.int .i64 o,.int .i64 0,.nilsl,.int .i64 0,.bool false,.str ⟨#[]⟩,.nilsl])=Cs at c6 c4 y⊢;refine C8 [4,6,20,21] (fun(p:Nat×Option Nat×Heap)=>[(22,.int .i64 p.1)]) (fun(p:Nat×Option Nat×Heap)=>p.2.2) (fun(p:Nat×Option Nat×Heap)=>p.1≤l.length∧AH 7 Cs u (fun x=>[.int .i64 o,.int .i64 0,.nilsl,.int .i64 0,.bool false,.str ⟨#[]⟩,x]) (Rw C1 (l.take p.1)) p.1 p.2.1 p.2.2) (fun(p:Nat×Option Nat×Heap)=>l.length-p.1) ((0,none,Cs)) (⟨D1c _,A2F c6⟩) (by(try simp only[go_sem,seval])<;>(try simp(disch:=omega) [A4])) (by first|exact D2i _|exact A0 (by assumption)|exact B9 (by assumption)|simp only[Heap.Le,Heap.set,Heap.del]at* <;>grind) ?_;rintro Ec rfl ⟨i,ob,Hp⟩ ⟨hi,A⟩;simp only at hi A;by_cases I:i<l.length
   ·have J:decide ((i:Int)<l.length)=true:=D1J (by omega);have b7:(i:Int)<l.length:=by omega
    have b9:=D1V I;repeat' (first|with_reducible apply D1H|simp only[go_sem,seval,J,b7,B3 _ _ I,C3 _ _ I]|(intro r;try simp only[A5]at r)|omega)
    rename_i T;have h8:=r;clear r;obtain⟨d1,d7,dO,dN⟩:=A.at7 h8 (.box (C1 l[i]));refine F9 (fun i'=>.agg (C1 l[i])) [u,T] ?_;have m1:u∈[u,T]:=by simp
    have m7:T∈[u,T]:=by simp
    repeat' (first|simp only[go_sem,seval,d1,d7,m1,m7]|(intro r;try simp only[A5]at r)|with_reducible refine R5 (fun H' Q hro hq=>B3s l[i] (fl _ b9) H' hq) ?_)
    rename_i x;have hx:=r;clear r;obtain⟨a9,c0⟩:=hx;have M:(Hp.set T (.box (C1 l[i]))) x=none:=by rw[A2 _ a9];exact c0
    obtain⟨V,b0⟩:=A5b dO M (.vec 7 [C1 l[i]]);have c2:x∉[u,T]:=by
     simp only[D1j,D1k,or_false,not_or];exact⟨fun e=>(by rw[e,d1]at M;cases M),a9⟩
    have c5: ∀c,ob=some c→c∉[u,T]:=fun c e=>by
     simp only[D1j,D1k,or_false,not_or];exact⟨(A.fresh c e).2,dN c e⟩
    refine B0p 28 96 (n:=i) (m:=1) (bx:=x) (ob:=ob) (es:=Rw C1 (l.take i)) (xs:=[C1 l[i]]) (by simp only[go_sem,seval]) (by decide) (by simp only[go_sem,seval]) (by simp only[go_sem,seval]) (by simp only[go_sem,seval]) (by simp only[go_sem,seval]) (A3 _ _) rfl (by simp) V (U4 _ _ (by omega)).symm c2 b0 c5 (by simp only[D1M,D1O];omega) (by simp only[D1M,D1O];omega) fun b' b1=>?_;rw[E9 M]at b1⊢;obtain⟨c9,c7,A'⟩:=A.step h8 _ b1 (C1 l[i]);revert A';generalize c8:((I3 (Hp.set T (.box (C1 l[i]))) ob).set b' (.vec 7 (Rw C1 (l.take i)++[C1 l[i]]))).set u (.box [.int .i64 o,.int .i64 0,.nilsl,.int .i64 0,.bool false,.str ⟨#[]⟩,.vec b' 7 0 (i+1)])=Hf;intro A';repeat' (first|simp only[go_sem,seval,c7,m1]|simp(disch:=omega) only[A4,B3,B4])
    exact C4 (i+1,some b',Hf) ⟨by simp only[];omega,by simp only[];rw[O9 l i I];exact A'⟩ (by simp only[];omega) (by(try simp only[go_sem,seval])<;>(try simp(disch:=omega) [A4])) (by rw[←c8];exact D2i _)
   ·have J:decide ((i:Int)<l.length)=false:=D1K (by omega);have b2:i=l.length:=by omega
    have O:=A.keep z _ a0 c4;rw[D1W (by omega)]at A;have A1:=A.box;have o1:=A1Y 7 i ob;have fo:FmFit (.mk o 0 nilL D5 l):=P7 (by rcases ho with rfl|rfl<;>simp[U3]) hlen fl;have vo:VOk (.mk o 0 nilL D5 l):=.inl (by rw[L7];simp only[Fm.l,Fm.ks,nilL,D1O];omega);have vv: ∀Q:D→Heap→Prop,Q (.bool (D8 (.mk o 0 nilL D5 l))) Hp→D7 18 [.agg [.int .i64 o,.int .i64 0,.nilsl,.int .i64 0,.bool false,.str ⟨#[]⟩,H8 7 i ob]] Hp Q:=fun Q hq=>
     X5 (args':=[.agg (C1 (.mk o 0 nilL D5 l))]) rfl (fun j d d' h1 h2=>by
      match j with
      |0=>cases h1;cases h2;exact B91 b2 A.out
      |j+1=>cases h1) (P3 _ fo vo _ ⟨rfl,hq⟩)
    cases b3:D8 (.mk o 0 nilL D5 l)with
    |false=>
     rw[b3]at h vv;simp only[D1X,if_false]at h;rw[X]at O;repeat' (first|simp only[go_sem,seval,J,A1,O,o1]|with_reducible refine vv _ ?_)
     exact E5 (A6p 3) (D2j (fun k q hk=>by
      have k4:k≠z:=fun e=>by rw[e,g4]at hk;cases hk
      rw[A2 _ k4];have k6:k≠u:=fun e=>by rw[e,a6]at hk;cases hk
      exact A.keep k q k6 (y _ _ hk)) h)
    |true=>
     rw[b3]at h vv;simp only[if_true]at h;rw[X]at O;repeat' (first|with_reducible apply D1H|simp only[go_sem,seval,J,A1,O,o1]|with_reducible refine vv _ ?_)
     exact C0r b2 (A.out2 c4 _) (D2j (A.le2 y a6 g4 _) h)
theorem C7d{Q}(l:List Fm)(i: ∀f∈l,FmFit f)(hlen:l.length≤1466015503658)(j: ∀f∈l,VOk f)(hw:l.all D8=true→J9.wtL l≤900000)(H:Heap)(h:Q (.tuple [.agg (C1 (bothF 5 l).1),.int .i64 (bothF 5 l).2]) H):D7 24 [.sl 7 (Rw C1 l)] H Q:=by
 refine A9 [] A6 Tryz.func24 rfl ?_;simp only[go_sem,seval,Tryz.results24];repeat' (first|simp only[go_sem,seval]|intro m|with_reducible refine B8J 5 (.inl rfl) l i hlen j hw _ ?_)
 exact D2j (A0 (by assumption)) h
theorem C92{Q}(l:List Fm)(i: ∀f∈l,FmFit f)(hlen:l.length≤1466015503658)(j: ∀f∈l,VOk f)(hw:l.all D8=true→J9.wtL l≤900000)(H:Heap)(h:Q (.tuple [.agg (C1 (bothF 6 l).1),.int .i64 (bothF 6 l).2]) H):D7 26 [.sl 7 (Rw C1 l)] H Q:=by
 refine A9 [] A6 Tryz.func26 rfl ?_;simp only[go_sem,seval,Tryz.results26];repeat' (first|simp only[go_sem,seval]|intro m|with_reducible refine B8J 6 (.inr rfl) l i hlen j hw _ ?_)
 exact D2j (A0 (by assumption)) h
end Go.Proofs.YtibphjonmikciaaGreatDoor
namespace Go.Fo
open Go Go.Av Go.Lexs Go.Lin
abbrev fxT:ByteArray:=⟨#[38,40,120,45,49,62,61,48,44,32,124,40,120,45,51,61,48,44,32,33,63,98,41,41]⟩
abbrev C7e:ByteArray:=⟨#[124,40,45,120,62,61,48,44,32,38,40,124,40,120,45,52,62,61,48,44,32,45,120,43,50,62,61,48,41,44,32,63,98,41,41]⟩
abbrev C0s:ByteArray:=⟨#[120,62,61,48]⟩
def fxO:Fm:=.mk 6 0 nilL D5 []
theorem B8L:S (E4 fxF)=fxT∧S (E4 fxN)=C7e:=by rw[A9K,B72];exact⟨rfl,rfl⟩
theorem A8J:A3F (B fxT)=(fxF,0)∧A3F (B C0s)=(fxP,0):=by
 have e1:B fxT=E4 fxF:=by rw[A9K];rfl
 have e2:B C0s=E4 fxP:=by rw[B1J];rfl
 rw[e1,e2];exact⟨A6l Q8.1 (by rw[A9K];decide),A6l Q8.2.1 (by rw[B1J];decide)⟩
theorem B2n:D8 fxP=true∧FmFit fxP∧VOk fxP:=⟨Q8.2.1,(X3 _ A2B.2.1).2,.inl (by have:=B1R.2.1;omega)⟩
theorem A4p:D8 fxN=true∧FmFit fxN∧VOk fxN:=⟨Q8.2.2.1,(X3 _ A2B.2.2.1).2,.inl (by have:=B1R.2.2.1;omega)⟩
theorem B2o:D8 fxA=true∧FmFit fxA∧VOk fxA:=⟨Q8.2.2.2,(X3 _ A2B.2.2.2.1).2,.inl (by have:=B1R.2.2.2;omega)⟩
theorem A60:A7e fxVals:=⟨by decide,by decide+kernel,fun x hx=>by
 have key: ∀x∈fxVals,x.n.natAbs≤10:=by decide+kernel
 have:=key x hx;unfold U3;omega⟩
theorem C7f:C1 fxO= [.int .i64 6,.int .i64 0,.sl 2 [],.int .i64 0,.bool false,.str D5,.sl 7 []]:=rfl
theorem B1V{s:ByteArray}(h:s.size≤1000)(i: ∀c∈B s,c.toNat<128):s.size≤20000→∀k,Go.Proofs.YtibphjonmikciaaGreatDoor.A6s ((B s).drop k):=fun _ k=>Go.Proofs.YtibphjonmikciaaGreatDoor.B2l (by rw[D1p,a7];omega) fun c hc=>i c (List.mem_of_mem_drop hc)
end Go.Fo
namespace Go.Proofs.YtibphjonmikciaaGreatDoor
open Go Go.Av Go.Lexs Go.Lin Go.Fo
attribute [local irreducible] ACalls S9
theorem C7g{Q}(H:Heap)(i:Tabs H)(h:Q (.tuple [.str fxT,.int .i64 0]) H):D7 27 [.agg (C1 fxF)] H Q:=
 A5k fxF L0.2.1 L0.2.2.1 H i (by rw[if_pos L0.1,if_pos L0.1,B8L.1];exact h)
theorem C4g{Q}(H:Heap)(i:Tabs H)(h:Q (.tuple [.str C7e,.int .i64 0]) H):D7 27 [.agg (C1 fxN)] H Q:=
 A5k fxN A4p.2.1 A4p.2.2 H i (by rw[if_pos A4p.1,if_pos A4p.1,B8L.2];exact h)
theorem C4h{Q}(H:Heap)(i:Tabs H)(h:Q (.tuple [.agg (C1 fxF),.int .i64 0]) H):D7 29 [.str fxT] H Q:=
 B1T fxT (B1V (by decide) (by decide)) H i (by rw[A8J.1];exact h)
theorem C0t{Q}(H:Heap)(i:Tabs H)(h:Q (.tuple [.agg (C1 fxP),.int .i64 0]) H):D7 29 [.str C0s] H Q:=
 B1T C0s (B1V (by decide) (by decide)) H i (by rw[A8J.2];exact h)
theorem C93{Q}(H:Heap)(h:Q (.tuple [.bool true,.int .i64 0]) H):D7 37 [.agg (C1 fxF),.agg (C1 fxP)] H Q:=
 C0j fxF fxP L0.2.1 B2n.2.1 L0.2.2.1 B2n.2.2 L0.1 B2n.1 A9O.1 A9O.2.1 false A4n.2.2.1 (X3 _ A2B.2.2.2.2.2.2.2.1).1 H h
theorem C94{Q}(H:Heap)(h:Q (.tuple [.agg (C1 fxN),.int .i64 0]) H):D7 16 [.agg (C1 fxF)] H Q:=
 C7X fxF L0.2.1 L0.2.2.1 H (by rw[C4T];exact h)
theorem C95{Q}(H:Heap)(h:Q (.tuple [.bool true,.int .i64 0]) H):D7 31 [.agg (C1 fxF)] H Q:=
 B8B fxF L0.2.1 L0.2.2.1 L0.1 true A4n.1 H h
theorem C7h{Q}(H:Heap)(h:Q (.tuple [.bool false,.int .i64 0]) H):D7 31 [.agg (C1 fxA)] H Q:=
 B8B fxA B2o.2.1 B2o.2.2 B2o.1 false A4n.2.1 H h
theorem C96{Q}(H:Heap)(h:Q (.tuple [.agg (C1 fxA),.int .i64 0]) H):D7 24 [.sl 7 (Rw C1 [fxF,fxN])] H Q:=
 C7d [fxF,fxN] (fun f i=>by simp only[D1j,D1k,or_false]at i;rcases i with rfl|rfl;exact L0.2.1;exact A4p.2.1) (by decide)
  (fun f i=>by simp only[D1j,D1k,or_false]at i;rcases i with rfl|rfl;exact L0.2.2.1;exact A4p.2.2) (fun _=>by have:=B1R;simp only[J9.wtL];omega) H (by rw[C4U];exact h)
theorem xOr{Q}(H:Heap)(h:Q (.tuple [.agg (C1 fxO),.int .i64 0]) H):D7 26 [.sl 7 []] H Q:=
 C92 [] (fun f i=>by cases i) (by decide) (fun f i=>by cases i) (fun _=>by simp only[J9.wtL];omega) H (by rw[C7b];exact h)
theorem xAt{Q}(H:Heap)(h:Q (.tuple [.bool true,.int .i64 0]) H):D7 22 [.agg (C1 fxF),.sl 2 (Rw vlC fxVals)] H Q:=
 C90 fxF L0.2.1 L0.2.2.1 fxVals A60 H (by rw[C7a];exact h)
theorem C7i{Q}(H:Heap)(h:Q (.tuple [.sl 1 (Rw j9 [nX]),.sl 1 (Rw j9 [nB]),.int .i64 0]) H):D7 14 [.agg (C1 fxF)] H Q:=
 C4R fxF L0.2.1 L0.2.2.1 H (by rw[if_pos L0.1,B3u.1,B3u.2];exact h)
theorem C7j{Q}(H:Heap)(h:Q (.tuple [.bool true,.int .i64 0]) H):D7 38 [.agg (C1 fxF),.agg (C1 fxF)] H Q:=
 C0k fxF L0.2.1 L0.2.2.1 L0.1 A9O.2.2.1 A9O.2.2.2 A4n.2.2.2.1 (X3 _ A2B.2.2.2.2.2.2.2.2.1).1 H h
theorem C4i{Q}(H:Heap)(h:Q (.bool true) H):D7 18 [.agg (C1 fxF)] H Q:=
 P3 fxF L0.2.1 L0.2.2.1 H (by rw[L0.1];exact h)
set_option maxHeartbeats 4000000 in
theorem B1W{Q}(H:Heap)(U:Tabs H)(h:Q (.bool true) H):D7 13 [] H Q:=by
 refine A9 [(15,.par)] A6 Tryz.func13 rfl ?_;simp only[go_sem,seval,Tryz.results13];have Y:=D2i H;repeat' (first|simp only[go_sem,seval]|intro j|with_reducible refine A8H _ ?_|with_reducible refine C7g _ U ?_|with_reducible refine C4h _ U ?_)
 rename_i T;have a0:=j;clear j;have i:(H.set T (.box (C1 fxF))) T=some (.box (C1 fxF)):=A3 _ _;have A:=Y.trans (A0 (o:=.box (C1 fxF)) a0);have a6:=U.le A;generalize H.set T (.box (C1 fxF))=H1 at i A a6⊢;clear a0;repeat' (first|simp only[go_sem,seval,i]|simp(disch:=first|omega|grind) only[A8]|intro j|with_reducible refine B8D _ ?_|with_reducible refine C0t _ a6 ?_)
 rename_i b7;have V:=j;clear j;have p:(H1.set b7 (.box (C1 fxP))) b7=some (.box (C1 fxP)):=A3 _ _;have i:=(A0 (o:=.box (C1 fxP)) V) _ _ i;have G:=A.trans (A0 (o:=.box (C1 fxP)) V);have b1:=U.le G;generalize H1.set b7 (.box (C1 fxP))=H2 at i p G b1⊢;clear V;repeat' (first|simp only[go_sem,seval,i,p]|intro j|with_reducible refine C93 _ ?_|with_reducible refine C94 _ ?_)
 rename_i W;have z:=j;clear j;have m:(H2.set W (.box (C1 fxN))) W=some (.box (C1 fxN)):=A3 _ _;have i:=(A0 (o:=.box (C1 fxN)) z) _ _ i;have p:=(A0 (o:=.box (C1 fxN)) z) _ _ p;have I:=G.trans (A0 (o:=.box (C1 fxN)) z);have a9:=U.le I;generalize H2.set W (.box (C1 fxN))=H3 at i p m I a9⊢;clear z;repeat' (first|simp only[go_sem,seval,i,p,m]|intro j|with_reducible refine C4g _ a9 ?_|with_reducible refine C95 _ ?_)
 rename_i bx;have b2:=j;clear j;refine R6 (es:=Rw C1 [fxF,fxN]) b2 rfl ?_;repeat' (first|simp only[go_sem,seval,i,p,m]|intro j|with_reducible refine C96 _ ?_)
 rename_i X;have u:=j;clear j;have q:(H3.set X (.box (C1 fxA))) X=some (.box (C1 fxA)):=A3 _ _;have i:=(A0 (o:=.box (C1 fxA)) u) _ _ i;have p:=(A0 (o:=.box (C1 fxA)) u) _ _ p;have m:=(A0 (o:=.box (C1 fxA)) u) _ _ m;have J:=I.trans (A0 (o:=.box (C1 fxA)) u);have b4:=U.le J;generalize H3.set X (.box (C1 fxA))=H4 at i p m q J b4⊢;clear u;repeat' (first|simp only[go_sem,seval,i,p,m,q]|with_reducible refine C7h _ ?_|with_reducible refine xAt _ ?_|with_reducible refine C7i _ ?_|with_reducible refine C7j _ ?_)
 refine B1a 7 ?_;repeat' (first|simp only[go_sem,seval,i,p,m,q]|intro j|with_reducible refine xOr _ ?_)
 rename_i x;have r:=j;clear j;have y:(H4.set x (.box (C1 fxO))) x=some (.box (C1 fxO)):=A3 _ _;have i:=(A0 (o:=.box (C1 fxO)) r) _ _ i;have p:=(A0 (o:=.box (C1 fxO)) r) _ _ p;have m:=(A0 (o:=.box (C1 fxO)) r) _ _ m;have q:=(A0 (o:=.box (C1 fxO)) r) _ _ q;have M:=J.trans (A0 (o:=.box (C1 fxO)) r);have b6:=U.le M;generalize H4.set x (.box (C1 fxO))=H5 at i p m q y M b6⊢;clear r;have m3:T∈[T,x]:=by simp
 have b0:x∈[T,x]:=by simp
 have t1:decide ((fxT:ByteArray)=fxT)=true:=D1J rfl;rw[show C1 fxO=_ from C7f]at y;refine F9 (fun i'=>if i'=12 then .agg (C1 fxF)else if i'=13 then .bool true else if i'=20 then .bool true else if i'=107 then .bool true else .undef) [T,x] ?_;repeat' (first|simp only[go_sem,seval,i,p,m,q,y,m3,b0]|intro j|with_reducible refine R5 (fun H' Q hro hq=>A8H H' hq) ?_|with_reducible refine R5 (fun H' Q hro hq=>A2C fxF L0.2.1 H' hq) ?_)
 rename_i bv;have O:=j;clear j;have b8:bv∉[T,x]:=by simp only[D1j,D1k,or_false];rintro(rfl|rfl);rw[i]at O;cases O;rw[y]at O;cases O
 refine C9c (o:=.vec 2 (Rw vlC fxVals)) O rfl b8 (fun H' Q hro hb hq=>A0c hb rfl (C0p fxVals A60 _ hq)) ?_;repeat' (first|with_reducible apply D1H|simp only[go_sem,seval,i,p,m,q,y,m3,b0]|intro j|with_reducible refine R5 (fun H' Q hro hq=>C4i H' hq) ?_|omega)
 exact D2j M h
theorem B8M(f:Fm)(T:FmFit f): ∀{Q:D→Heap→Prop} (left:Int) (H:Heap) (h:Q (.int .i64 (A3G f left)) H),D7 43 [.agg (C1 f),.int .i64 left] H Q:=by
 induction T with
 |mk o n l s ks ho hn hl hs hk hf U=>
 intro Q left H h;rw[C0P]at h;change Q (.int .i64 (A3G.cntK ks (tcF l.t (IntKind.i64.wrap (left-IntKind.i64.wrap (IntKind.i64.wrap (1+s.size / 100)+l.t.length)))))) H at h;have V:=hl.len;rw[A4 (x:=1+(s.size:Int) / 100) (by omega) (by omega),A4 (x:=1+(s.size:Int) / 100+(l.t.length:Int)) (by omega) (by omega)]at h;have e:C1 (.mk o n l s ks)= [.int .i64 o,.int .i64 n,.sl 2 (Rw J7 l.t),.int .i64 l.k,.bool l.e,.str s,.sl 7 (Rw C1 ks)]:=I6 _;rw[e];refine A9 [] A6 Tryz.func43 rfl ?_;simp only[go_sem,seval,Tryz.results43];intro J W;have e2:(H.set J (.box [.int .i64 o,.int .i64 n,.sl 2 (Rw J7 l.t),.int .i64 l.k,.bool l.e,.str s,.sl 7 (Rw C1 ks)])) J=some (.box [.int .i64 o,.int .i64 n,.sl 2 (Rw J7 l.t),.int .i64 l.k,.bool l.e,.str s,.sl 7 (Rw C1 ks)]):=A3 _ _;have A:H.Le (H.set J (.box [.int .i64 o,.int .i64 n,.sl 2 (Rw J7 l.t),.int .i64 l.k,.bool l.e,.str s,.sl 7 (Rw C1 ks)])):=A0 W;generalize H.set J (.box [.int .i64 o,.int .i64 n,.sl 2 (Rw J7 l.t),.int .i64 l.k,.bool l.e,.str s,.sl 7 (Rw C1 ks)])=Bs at e2 A⊢;repeat' (first|with_reducible apply D1H|simp only[go_sem,seval,e2]|simp(disch:=omega) only[A4,B3,B4]|intro G|omega)
 refine C8 [2,23,24] (fun(p:Nat×Int)=>[(25,.int .i64 p.1),(1,.int .i64 p.2)]) (fun(p:Nat×Int)=>Bs) (fun(p:Nat×Int)=>p.1≤l.t.length∧tcF (l.t.drop p.1) p.2=tcF l.t (IntKind.i64.wrap (left-(1+(s.size:Int) / 100+l.t.length)))) (fun(p:Nat×Int)=>l.t.length-p.1) ((0,IntKind.i64.wrap (left-(1+(s.size:Int) / 100+l.t.length)))) (⟨D1c _,rfl⟩) (by(try simp only[go_sem,seval])<;>(try simp(disch:=omega) [A4])) (by first|exact D2i _|exact A0 (by assumption)|exact B9 (by assumption)|simp only[Heap.Le,Heap.set,Heap.del]at* <;>grind) ?_;rintro X rfl ⟨i,n⟩ ⟨Y,hv⟩;simp only at Y hv;by_cases y:i<l.t.length
 ·have I:decide ((i:Int)<l.t.length)=true:=D1J (by omega);have M:(i:Int)<l.t.length:=by omega
  have hsz:=hl.str _ (D1V y);repeat' (first|with_reducible apply D1H|simp only[go_sem,seval,I,M,B3 _ _ y,C3 _ _ y]|simp(disch:=omega) only[A4,B3,B4]|intro G|omega)
  rw[D1m y,tcF]at hv;exact C4 (i+1,IntKind.i64.wrap (n-(l.t[i].v.size:Int) / 100)) ⟨by simp only[];omega,hv⟩ (by simp only[];omega) (by(try simp only[go_sem,seval])<;>(try simp(disch:=omega) [A4])) (by simp only[F0,D3,D4]at* <;>grind)
 ·have I:decide ((i:Int)<l.t.length)=false:=D1K (by omega);rw[List.drop_of_length_le (by omega),tcF]at hv;rw[←hv]at h;clear hv;repeat' simp only[go_sem,seval,I,e2]
  refine C8 [37,38] (fun(p:Nat×Int)=>[(39,.int .i64 p.1),(1,.int .i64 p.2)]) (fun(p:Nat×Int)=>Bs) (fun(p:Nat×Int)=>p.1≤ks.length∧A3G.cntK (ks.drop p.1) p.2=A3G.cntK ks n) (fun(p:Nat×Int)=>ks.length-p.1) ((0,n)) (⟨D1c _,rfl⟩) (by(try simp only[go_sem,seval])<;>(try simp(disch:=omega) [A4])) (by first|exact D2i _|exact A0 (by assumption)|exact B9 (by assumption)|simp only[Heap.Le,Heap.set,Heap.del]at* <;>grind) ?_;rintro X rfl ⟨j,m⟩ ⟨hj,hw⟩;simp only at hj hw;by_cases q:j<ks.length
  ·have u:decide ((j:Int)<ks.length)=true:=D1J (by omega);have z:(j:Int)<ks.length:=by omega
   have O: ∀{Q:D→Heap→Prop} (left:Int) (H:Heap) (h:Q (.int .i64 (A3G ks[j] left)) H),D7 43 [.agg (C1 ks[j]),.int .i64 left] H Q:=U ks[j] (D1V q);rw[D1m q,A3G.cntK]at hw;by_cases r:m<0
   ·rw[if_pos r]at hw;have hd:=D1J r;repeat' (first|with_reducible apply D1H|simp only[go_sem,seval,u,z,r,hd,B3 _ _ q,C3 _ _ q]|intro G|omega)
    rw[hw];exact D2j (A.trans (A0 (by assumption))) h
   ·rw[if_neg r]at hw;have hd:=D1K r;repeat' (first|with_reducible apply D1H|simp only[go_sem,seval,u,z,r,hd,B3 _ _ q,C3 _ _ q]|simp(disch:=omega) only[A4,B3,B4]|intro G|with_reducible refine O _ _ ?_|omega)
    exact C4 (j+1,A3G ks[j] m) ⟨by simp only[];omega,hw⟩ (by simp only[];omega) (by(try simp only[go_sem,seval])<;>(try simp(disch:=omega) [A4])) (by simp only[F0,D3,D4]at* <;>grind)
  ·have u:decide ((j:Int)<ks.length)=false:=D1K (by omega);rw[List.drop_of_length_le (by omega),A3G.cntK]at hw;repeat' simp only[go_sem,seval,u]
   rw[hw];exact D2j A h
theorem C4j{Q}(l:List Fm)(hl:l.length≤1466015503658)(u: ∀f∈l,FmFit f)(H:Heap)(h:Q (.bool (decide (0≤B1E l 600))) H):D7 12 [.sl 7 (Rw C1 l)] H Q:=by
 refine A9 [] A6 Tryz.func12 rfl ?_;simp only[go_sem,seval,Tryz.results12];repeat' (first|with_reducible apply D1H|simp only[go_sem,seval]|simp(disch:=omega) only[A4,B3,B4]|intro o|omega)
 refine C8 [6,7] (fun(p:Nat×Int)=>[(8,.int .i64 p.1),(3,.int .i64 p.2)]) (fun(p:Nat×Int)=>H) (fun(p:Nat×Int)=>p.1≤l.length∧B1E (l.drop p.1) p.2=B1E l 600) (fun(p:Nat×Int)=>l.length-p.1) ((0,600)) (⟨D1c _,rfl⟩) (by(try simp only[go_sem,seval])<;>(try simp(disch:=omega) [A4])) (by first|exact D2i _|exact A0 (by assumption)|exact B9 (by assumption)|simp only[Heap.Le,Heap.set,Heap.del]at* <;>grind) ?_;rintro y rfl ⟨i,n⟩ ⟨x,hv⟩;simp only at x hv;by_cases j:i<l.length
 ·have m:decide ((i:Int)<l.length)=true:=D1J (by omega);have q:(i:Int)<l.length:=by omega
  have r: ∀{Q:D→Heap→Prop} (left:Int) (H:Heap) (h:Q (.int .i64 (A3G l[i] left)) H),D7 43 [.agg (C1 l[i]),.int .i64 left] H Q:=B8M l[i] (u _ (D1V j));rw[D1m j,B1E]at hv;repeat' (first|with_reducible apply D1H|simp only[go_sem,seval,m,q,B3 _ _ j,C3 _ _ j]|simp(disch:=omega) only[A4,B3,B4]|intro o|with_reducible refine r _ _ ?_|omega)
  exact C4 (i+1,A3G l[i] n) ⟨by simp only[];omega,hv⟩ (by simp only[];omega) (by(try simp only[go_sem,seval])<;>(try simp(disch:=omega) [A4])) (by simp only[F0,D3,D4]at* <;>grind)
 ·have m:decide ((i:Int)<l.length)=false:=D1K (by omega);rw[List.drop_of_length_le (by omega),B1E]at hv;rw[←hv]at h;repeat' simp only[go_sem,seval,m]
  first
   |exact D2m h
   |(rw[show decide (n≥0)=decide (0≤n)from rfl];exact D2m h)
end Go.Proofs.YtibphjonmikciaaGreatDoor
namespace Go.Fo
open Go Go.Av Go.Lexs Go.Lin
theorem C0u{Q:D→Heap→Prop}{H:Heap}{n:Nat}{ob:Option Nat}{o m:Int}{l:LinV}{s:ByteArray}{ks:List Fm}(hn:n=ks.length)(ho:OutAt H 7 (Rw C1 ks) ob)(h:Fin Q (.agg (C1 (.mk o m l s ks))) (I3 H ob)):
  Fin Q (.agg [.int .i64 o,.int .i64 m,.sl 2 (Rw J7 l.t),.int .i64 l.k,.bool l.e,.str s,H8 7 n ob]) H:=by
 rw[Z0]at h;cases ob with
 |none=>
  have i:Rw C1 ks= []:=ho;refine E5 ?_ h;rw[i];exact B0o (.same _) (.nil 7)
 |some b=>
  have hb:H b=some (.vec 7 (Rw C1 ks)):=ho;subst hn;refine R0 (cs':=[.int .i64 o,.int .i64 m,.sl 2 (Rw J7 l.t),.int .i64 l.k,.bool l.e,.str s,.sl 7 (Rw C1 ks)]) hb rfl (fz7 (.same _) ?_) h;have:=Fz.all (b:=b) (sz:=7) (es:=Rw C1 ks);rwa [D6]at this
end Go.Fo
namespace Go.Proofs.YtibphjonmikciaaGreatDoor
open Go Go.Av Go.Lexs Go.Lin Go.Fo
attribute [local irreducible] ACalls S9
set_option maxHeartbeats 4000000 in
theorem C4k(f:Fm)(ff:FmFit f): ∀{Q:D→Heap→Prop} (H:Heap) (h:Q (.agg (C1 f)) H),D7 41 [.agg (C1 f)] H Q:=by
 induction ff with
 |mk o n l s ks ho hn hl hs hk hf ih=>
 intro Q H h;have e:C1 (.mk o n l s ks)= [.int .i64 o,.int .i64 n,.sl 2 (Rw J7 l.t),.int .i64 l.k,.bool l.e,.str s,.sl 7 (Rw C1 ks)]:=I6 _;have b7:=hl.len;rw[e];refine A9 [(3,.wk)] A6 Tryz.func41 rfl ?_;simp only[go_sem,seval,Tryz.results41];intro j W q V;simp only[A5]at V;have A:j≠q:=fun e=>V.1 e.symm;obtain⟨Z,hZ⟩: ∃Z:List D,Z= [.int .i64 0,.int .i64 0,.nilsl,.int .i64 0,.bool false,.str ⟨#[]⟩,.nilsl]:=⟨_,rfl⟩
 rw[←hZ];obtain⟨X,hX⟩: ∃X:List D,X= [.int .i64 o,.int .i64 n,.sl 2 (Rw J7 l.t),.int .i64 l.k,.bool l.e,.str s,.sl 7 (Rw C1 ks)]:=⟨_,rfl⟩
 rw[←hX];have e1:((H.set j (.box X)).set q (.box Z)) j=some (.box X):=by rw[A2 _ A,A3]
 have e2:((H.set j (.box X)).set q (.box Z)) q=some (.box Z):=A3 _ _;have O:H.Le ((H.set j (.box X)).set q (.box Z)):=(A0 W).trans (A0 (by simp only[A5];exact V));generalize (H.set j (.box X)).set q (.box Z)=Bs at e1 e2 O⊢;rw[hX]at e1;repeat' (first|with_reducible apply D1H|simp only[go_sem,seval,e1]|simp(disch:=first|omega|grind) only[A8]|(intro m;try simp only[A5]at m)|omega)
 rename_i z hz y;have G:=m;clear m;rw[E9 hz]at G⊢;have Y:j≠y:=fun e=>by rw[←e,e1]at G;cases G
 have a0:q≠y:=fun e=>by rw[←e,e2]at G;cases G
 have f1:(Bs.set y (.vec 2 (Rw J7 l.t))) j=some (.box [.int .i64 o,.int .i64 n,.sl 2 (Rw J7 l.t),.int .i64 l.k,.bool l.e,.str s,.sl 7 (Rw C1 ks)]):=by rw[A2 _ Y];exact e1
 repeat' simp only[go_sem,seval,f1]
 refine C2E [(1,.box j 0),(2,.box q 0),(3,.nilsl)] (Bs.set j (.box [.int .i64 o,.int .i64 n,.sl 2 (Rw J7 l.t),.int .i64 l.k,.bool l.e,.str s,.sl 7 (Rw C1 ks)])) (A8F (cs:=[.int .i64 o,.int .i64 n,.vec y 2 0 l.t.length,.int .i64 l.k,.bool l.e,.str s,.sl 7 (Rw C1 ks)]) (by simp only[go_sem,seval]) G Y rfl (fz7 ?_ (.same _))) ?_
 ·have:=Fz.all (b:=y) (sz:=2) (es:=Rw J7 l.t);rwa [D6]at this
 have c1:(Bs.set j (.box [.int .i64 o,.int .i64 n,.sl 2 (Rw J7 l.t),.int .i64 l.k,.bool l.e,.str s,.sl 7 (Rw C1 ks)])) j=some (.box [.int .i64 o,.int .i64 n,.sl 2 (Rw J7 l.t),.int .i64 l.k,.bool l.e,.str s,.sl 7 (Rw C1 ks)]):=A3 _ _;have c2:(Bs.set j (.box [.int .i64 o,.int .i64 n,.sl 2 (Rw J7 l.t),.int .i64 l.k,.bool l.e,.str s,.sl 7 (Rw C1 ks)])) q=some (.box Z):=by rw[A2 _ A.symm];exact e2
 have u:H.Le (Bs.set j (.box [.int .i64 o,.int .i64 n,.sl 2 (Rw J7 l.t),.int .i64 l.k,.bool l.e,.str s,.sl 7 (Rw C1 ks)])):=F3 O W;generalize Bs.set j (.box [.int .i64 o,.int .i64 n,.sl 2 (Rw J7 l.t),.int .i64 l.k,.bool l.e,.str s,.sl 7 (Rw C1 ks)])=Cs at c1 c2 u⊢;clear e1 e2 f1 G hz Y a0;repeat' simp only[go_sem,seval,c1]
 refine C8 [1,2,14,15] (fun(p:Nat×Option Nat×Heap)=>[(16,.int .i64 p.1),(3,H8 7 p.1 p.2.1)]) (fun(p:Nat×Option Nat×Heap)=>p.2.2) (fun(p:Nat×Option Nat×Heap)=>p.1≤ks.length∧OutIn Cs 7 (Rw C1 (ks.take p.1)) p.2.1 p.2.2) (fun(p:Nat×Option Nat×Heap)=>ks.length-p.1) ((0,none,Cs)) (⟨D1c _,D2i _,rfl,fun _ e=>by cases e⟩) (by(try simp only[go_sem,seval])<;>(try simp(disch:=omega) [A4])) (by first|exact D2i _|exact A0 (by assumption)|exact B9 (by assumption)|simp only[Heap.Le,Heap.set,Heap.del]at* <;>grind) ?_;rintro Ec rfl ⟨i,ob,Hp⟩ ⟨hi,M⟩;simp only at hi M;by_cases r:i<ks.length
 ·have I:decide ((i:Int)<ks.length)=true:=D1J (by omega);have a6:(i:Int)<ks.length:=by omega
  have a9: ∀{Q:D→Heap→Prop} (H:Heap) (h:Q (.agg (C1 ks[i])) H),D7 41 [.agg (C1 ks[i])] H Q:=ih ks[i] (D1V r);repeat' (first|with_reducible apply D1H|simp only[go_sem,seval,I,a6,B3 _ _ r,C3 _ _ r]|(intro m;try simp only[A5]at m)|with_reducible refine a9 _ ?_|omega)
  rename_i b5 h5 x;have hx:=m;clear m;have q5:=M.set h5 (.box (C1 ks[i]));have T:(Hp.set b5 (.box (C1 ks[i]))) x=none:=by rw[A2 _ hx.1];exact hx.2
  refine B3I (q5.set T _) (by simp) (U4 _ _ (by omega)).symm (by simp only[D1M,D1O];omega) (by simp only[D1M,D1O];omega) fun b' b0 b3 b6=>?_;repeat' (first|simp only[go_sem,seval]|simp(disch:=omega) only[A4,B3,B4])
  refine C4 (i+1,some b',_) ⟨by simp only[];omega,(q5.set T _).le.trans (A0 b3),?_,fun c hc=>by cases hc;exact b0⟩ (by simp only[];omega) (by(try simp only[go_sem,seval])<;>(try simp(disch:=omega) [A4])) (D2i _);show Heap.set _ _ _ b'=_;rw[A3,O9 ks i r]
 ·have I:decide ((i:Int)<ks.length)=false:=D1K (by omega);have b4:i=ks.length:=by omega
  rw[D1W (by omega)]at M;have U:=M.1 _ _ c1;have J:=M.1 _ _ c2;rw[hZ]at J;have o1:=A1Y 7 i ob;repeat' (first|with_reducible apply D1H|simp only[go_sem,seval,I,U,J,o1]|simp(disch:=first|omega|grind) only[A8])
  have qa:=A32 (M.less u) W U (.box [.int .i64 o,.int .i64 n,.sl 2 (Rw J7 l.t),.int .i64 l.k,.bool l.e,.str s,H8 7 i ob]);have qb:=A32 qa V.2 (b:=q) (rd:=[.int .i64 0,.int .i64 0,.nilsl,.int .i64 0,.bool false,.str ⟨#[]⟩,.nilsl]) (by rw[A2 _ A.symm];exact J) (.box [.int .i64 o,.int .i64 n,.sl 2 (Rw J7 l.t),.int .i64 l.k,.bool l.e,.str s,H8 7 i ob]);exact C0u (ks:=ks) b4 qb.2.1 (D2j qb.le h)
theorem B8N{Q}(f:Fm)(i:FmFit f)(H:Heap)(h:Q (.agg (C1 f)) H):D7 41 [.agg (C1 f)] H Q:=C4k f i H h
theorem Q9{d:D}:d.one=true→(D.one.match_1 (fun _=>Bool) d (fun _=>false) (fun _=>false) (fun _=>false) fun _=>true)=true:=fun h=>h
set_option maxHeartbeats 4000000 in
theorem C2G(f:Fm)(ff:FmFit f): ∀{Q:D→Heap→Prop} (H:Heap) (h:TrQ Q H f .agg),D7 41 [.agg (C1 f)] H Q:=by
 induction ff with
 |mk o n l s ks ho hn hl hs hk hf ih=>
 intro Q H h;have e:C1 (.mk o n l s ks)= [.int .i64 o,.int .i64 n,.sl 2 (Rw J7 l.t),.int .i64 l.k,.bool l.e,.str s,.sl 7 (Rw C1 ks)]:=I6 _;have b8:=hl.len;rw[e];refine A9 [(3,.wk)] A6 Tryz.func41 rfl ?_;simp only[go_sem,seval,Tryz.results41];intro r g1 A g2;simp only[A5]at g2;have W:r≠A:=fun e=>g2.1 e.symm;obtain⟨Z,hZ⟩: ∃Z:List D,Z= [.int .i64 0,.int .i64 0,.nilsl,.int .i64 0,.bool false,.str ⟨#[]⟩,.nilsl]:=⟨_,rfl⟩
 rw[←hZ];obtain⟨X,hX⟩: ∃X:List D,X= [.int .i64 o,.int .i64 n,.sl 2 (Rw J7 l.t),.int .i64 l.k,.bool l.e,.str s,.sl 7 (Rw C1 ks)]:=⟨_,rfl⟩
 rw[←hX];have e1:((H.set r (.box X)).set A (.box Z)) r=some (.box X):=by rw[A2 _ W,A3]
 have e2:((H.set r (.box X)).set A (.box Z)) A=some (.box Z):=A3 _ _;have O:H.Le ((H.set r (.box X)).set A (.box Z)):=(A0 g1).trans (A0 (by simp only[A5];exact g2));generalize (H.set r (.box X)).set A (.box Z)=Bs at e1 e2 O⊢;rw[hX]at e1;repeat' (first|with_reducible apply D1H|simp only[go_sem,seval,e1]|simp(disch:=omega) only[A4,B3,B4]|simp(disch:=first|omega|grind) only[A8]|(intro j;try simp only[A5]at j)|omega)
 rename_i z hz y;have M:=j;clear j;rw[E9 hz]at M⊢;have ny:r≠y:=fun e=>by rw[←e,e1]at M;cases M
 have Y:A≠y:=fun e=>by rw[←e,e2]at M;cases M
 have f1:(Bs.set y (.vec 2 (Rw J7 l.t))) r=some (.box [.int .i64 o,.int .i64 n,.sl 2 (Rw J7 l.t),.int .i64 l.k,.bool l.e,.str s,.sl 7 (Rw C1 ks)]):=by rw[A2 _ ny];exact e1
 repeat' (first|with_reducible apply D1H|simp only[go_sem,seval,f1]|simp(disch:=omega) only[A4,B3,B4]|simp(disch:=first|omega|grind) only[A8]|(intro j;try simp only[A5]at j)|omega)
 refine V8 [(1,.box r 0),(2,.box A 0),(3,.nilsl)] _ (by(try simp only[go_sem,seval])<;>(try simp(disch:=omega) [A4])<;>(try omega)) (D2i _) ?_;obtain⟨Cs,u⟩: ∃Cs,Cs=(Bs.set y (.vec 2 (Rw J7 l.t))).set r (.box [.int .i64 o,.int .i64 n,.vec y 2 0 l.t.length,.int .i64 l.k,.bool l.e,.str s,.sl 7 (Rw C1 ks)]):=⟨_,rfl⟩
 rw[←u];have c1:Cs r=some (.box [.int .i64 o,.int .i64 n,.vec y 2 0 l.t.length,.int .i64 l.k,.bool l.e,.str s,.sl 7 (Rw C1 ks)]):=by rw[u];exact A3 _ _
 have c2:Cs A=some (.box Z):=by rw[u,A2 _ W.symm,A2 _ Y];exact e2
 have cy:Cs y=some (.vec 2 (Rw J7 l.t)):=by rw[u,A2 _ ny.symm];exact A3 _ _
 have G:H.Le Cs:=by rw[u];exact F3 (O.trans (A0 M)) g1
 have a6:H y=none:=O.none M;clear e1 e2 f1 M hz u;repeat' (first|with_reducible apply D1H|simp only[go_sem,seval,c1]|simp(disch:=omega) only[A4,B3,B4]|simp(disch:=first|omega|grind) only[A8]|(intro j;try simp only[A5]at j)|omega)
 refine C8 [1,2,14,15] (fun(p:Nat×List (List D)×List Nat×Option Nat×Heap)=>[(16,.int .i64 p.1),(3,H8 7 p.1 p.2.2.2.1)]) (fun(p:Nat×List (List D)×List Nat×Option Nat×Heap)=>p.2.2.2.2) (fun(p:Nat×List (List D)×List Nat×Option Nat×Heap)=>p.1≤ks.length∧p.2.1.length=p.1∧TrR [] Cs (ks.take p.1) p.2.1 p.2.2.1 p.2.2.2.1 p.2.2.2.2) (fun(p:Nat×List (List D)×List Nat×Option Nat×Heap)=>ks.length-p.1) ((0,[],[],none,Cs)) (⟨D1c _,rfl,A4t _ _⟩) (by(try simp only[go_sem,seval])<;>(try simp(disch:=omega) [A4])<;>(try omega)) (by first|exact D2i _|exact A0 (by assumption)|exact B9 (by assumption)|simp only[Heap.Le,Heap.set,Heap.del]at* <;>grind) ?_;rintro Ec rfl ⟨i,rows,bs,ob,Hp⟩ ⟨hi,U,T⟩;simp only at hi U T;by_cases I:i<ks.length
 ·have V:decide ((i:Int)<ks.length)=true:=D1J (by omega);have a9:(i:Int)<ks.length:=by omega
  have J: ∀{Q:D→Heap→Prop} (H:Heap) (h:TrQ Q H ks[i] .agg),D7 41 [.agg (C1 ks[i])] H Q:=ih ks[i] (D1V I);repeat' (first|with_reducible apply D1H|simp only[go_sem,seval,V,a9,B3 _ _ I,C3 _ _ I]|simp(disch:=omega) only[A4,B3,B4]|simp(disch:=first|omega|grind) only[A8]|(intro j;try simp only[A5]at j)|omega)
  rename_i b5;have h5:=j;clear j;refine J _ fun d B H1 ht hB hH=>?_;obtain⟨td,kd,hd,o1,o2⟩:=ht.row;subst hd;repeat' (first|with_reducible apply D1H|simp only[go_sem,seval,Q9 o1,Q9 o2]|simp(disch:=omega) only[A4,B3,B4]|simp(disch:=first|omega|grind) only[A8]|(intro j;try simp only[A5]at j)|omega)
  rename_i x;have hx:=j;clear j;refine A2R rows (by simp) U.symm (T.out1 (A0 h5) hB hH hx _) (by simp only[D1M,D1O];omega) (by simp only[D1M,D1O];omega) fun b' b0=>?_;have T':=T.step (A0 h5) ht hB hH hx b0;repeat' (first|with_reducible apply D1H|simp only[go_sem,seval]|simp(disch:=omega) only[A4,B3,B4]|simp(disch:=first|omega|grind) only[A8]|(intro j;try simp only[A5]at j)|omega)
  exact C4 (i+1,rows++[_],bs++B,some b',_) ⟨by simp only[];omega,by simp only[D1N,D1P];omega,by rw[D1a I];exact T'⟩ (by simp only[];omega) (by(try simp only[go_sem,seval])<;>(try simp(disch:=omega) [A4])<;>(try omega)) (D2i _)
 ·have V:decide ((i:Int)<ks.length)=false:=D1K (by omega);have b9:i=ks.length:=by omega
  rw[D1W (by omega)]at T;have b3:=T.keep r _ (by simp) c1;have a0:=T.keep A _ (by simp) c2;have b4:=T.keep y _ (by simp) cy;rw[hZ]at a0;have o1:=A1Y 7 i ob;repeat' (first|with_reducible apply D1H|simp only[go_sem,seval,V,b3,a0,o1]|simp(disch:=omega) only[A4,B3,B4]|simp(disch:=first|omega|grind) only[A8]|(intro j;try simp only[A5]at j)|omega)
  have b6:SlAt Hp 2 (Rw J7 l.t) (.vec y 2 0 l.t.length) [y]:=.inr ⟨y,by rw[D6],b4,rfl⟩;have T1:=(T.tr' (o:=o) (n:=n) (l:=l) (s:=s) b6 (by simp) (fun b hb=>by rw[D1i]at hb;subst hb;rw[cy];simp) (m:=i) U.symm)
  have b7: ∀b∈[y]++(ob.toList++bs),H b=none:=fun b hb=>by
   rcases D1h.1 hb with h|h
   ·rw[D1i]at h;rw[h];exact a6
   ·rcases D1h.1 h with h|h
    ·cases ob with
     |none=>cases h
     |some c=>rw[Option.toList_some,D1i]at h;subst h;exact G.none (T.obn b rfl).1
    ·exact G.none (T.new b h)
  have J: ∀b∈[y]++(ob.toList++bs),b≠r∧b≠A:=fun b hb=>by
   rcases D1h.1 hb with h|h
   ·rw[D1i]at h;rw[h];exact⟨ny.symm,Y.symm⟩
   ·rcases D1h.1 h with h|h
    ·cases ob with
     |none=>cases h
     |some c=>
      rw[Option.toList_some,D1i]at h;subst h;have:=(T.obn b rfl).1;exact⟨fun e=>(by rw[e,c1]at this;cases this),fun e=>(by rw[e,c2]at this;cases this)⟩
    ·have:=T.new b h;exact⟨fun e=>(by rw[e,c1]at this;cases this),fun e=>(by rw[e,c2]at this;cases this)⟩
  refine A2h (k:=.agg) (T1.mono fun b hb=>by rw[A2 _ (J b hb).2,A2 _ (J b hb).1]) b7 (fun q p hq=>?_) h;have q1:q≠r:=fun e=>by rw[e,g1]at hq;cases hq
  have q2:q≠A:=fun e=>by rw[e,g2.2]at hq;cases hq
  rw[A2 _ q2,A2 _ q1];exact T.keep q p (by simp) (G q p hq)
end Go.Proofs.YtibphjonmikciaaGreatDoor
namespace Go.Fo
open Go Go.Av Go.Lexs Go.Lin
theorem SlAt.one{H:Heap}{sz:Nat}{es:List (List D)}{d:D}{bs:List Nat}(h:SlAt H sz es d bs):d.one=true:=by
 rcases h with⟨_,_,rfl|rfl⟩|⟨b,rfl,_⟩<;>rfl
theorem SlAt.cells{H:Heap}{sz:Nat}{es:List (List D)}{d:D}{bs:List Nat}(h:SlAt H sz es d bs):d.cells= [d]:=by
 rcases h with⟨_,_,rfl|rfl⟩|⟨b,rfl,_⟩<;>rfl
theorem SlAt.ex{H:Heap}{sz:Nat}{es:List (List D)}{d:D}{bs:List Nat}(h:SlAt H sz es d bs){b:Nat}(hb:b∈bs): ∃o,H b=some o:=by
 rcases h with⟨_,rfl,_⟩|⟨c,_,h,rfl⟩
 ·cases hb
 ·rw[D1i]at hb;subst hb;exact⟨_,h⟩
end Go.Fo
namespace Go.Proofs.YtibphjonmikciaaGreatDoor
open Go Go.Av Go.Lexs Go.Lin Go.Fo
attribute [local irreducible] ACalls S9
def SlQ(Q:D→Heap→Prop)(H:Heap)(sz:Nat)(es:List (List D)):Prop:=∀d tb H1,SlAt H1 sz es d tb→(∀b∈tb,H b=none)→(∀b,b∉tb→H1 b=H b)→Q d H1
theorem SlQ.new{Q:D→Heap→Prop}{H:Heap}{sz:Nat}{es:List (List D)}(h:SlQ Q H sz es){b n:Nat}(hb:H b=none)(hn:n=es.length):Q (.vec b sz 0 n) (H.set b (.vec sz es)):=
 h _ [b] _ (.inr ⟨b,by rw[hn],A3 _ _,rfl⟩) (fun c hc=>by rw[D1i]at hc;rw[hc];exact hb) (fun c hc=>A2 _ (by simpa using hc))
theorem B5H{Q}(l:List LTm)(hc:l≠[])(hl:l.length≤5864062014639)(H:Heap)(h:SlQ Q H 2 (Rw J7 l)):D7 91 [.sl 2 (Rw J7 l)] H Q:=by
 have m:Rw J7 l≠[]:=fun e=>hc (D1f (by rw[←D6 (f:=J7),e];rfl));refine A9 [] A6 Tryz.func91 rfl ?_;simp only[go_sem,seval,Tryz.results91];have hq: ∀(x:Nat),K7 Tryz.prog .eql 23 (J3 (.tmp x)||J3 (.const (.slice none 0 0))) (.sl 2 (Rw J7 l)) .nilsl=some (.bool false):=fun x=>A3W m (by kernel_rfl);repeat' (first|with_reducible apply D1H|simp only[go_sem,seval,hq]|simp(disch:=omega) only[B4]|intro i|omega)
 rename_i p o q;have j:=i;clear i;rw[E9 o]at j⊢;exact D2m (h.new j (by rw[D6]))
theorem B8O{Q}(l:List LTm)(hl:l.length≤5864062014639)(H:Heap)(h:SlQ Q H 2 (Rw J7 l)):D7 91 [.sl 2 (Rw J7 l)] H Q:=by
 by_cases hc:l= []
 ·subst hc;obtain⟨o1,o2,ho,a1,a2,a3,j,m,o⟩: ∃o1 o2,B3r.toList= [o1,o2]∧o1.dst=some 3∧o1.op= .move (.tmp 0)∧o1.guard=none∧o2.dst=some 4∧o2.op= .binOp .eql 23 (.tmp 3) (.const (.slice none 0 0)) 23∧o2.guard=none:=by
   refine⟨_,_,rfl,?_⟩;exact⟨rfl,rfl,rfl,rfl,rfl,rfl⟩
  refine A3x (ops:=B3r) [] (sz:=2) A6 Tryz.func91 rfl (by kernel_rfl) (D1I (by kernel_rfl)) ho a1 a2 a3 j m o (D1I (by kernel_rfl)) (D1I (by kernel_rfl)) (e:=114) (by kernel_rfl) (by kernel_rfl) (by kernel_rfl) (by kernel_rfl) ?_;simp only[go_sem,seval,Tryz.results91];refine⟨rfl,fun b=>⟨fun _=>E5 (.nil 2) (D2m (h _ [] _ (.inl ⟨rfl,rfl,.inr rfl⟩) (by simp) (fun _ _=>rfl))),fun _ q p r i=>?_⟩⟩;rw[E9 p]at i⊢;exact D2m (h.new i rfl)
 ·exact B5H l hc hl H h
set_option maxHeartbeats 4000000 in
theorem B30(f:Fm)(ff:FmFit f): ∀{Q:D→Heap→Prop} (H:Heap) (h:TrQ Q H f .agg),D7 49 [.agg (C1 f)] H Q:=by
 induction ff with
 |mk o n l s ks ho hn hl hs hk hf ih=>
 intro Q H h;have e:C1 (.mk o n l s ks)= [.int .i64 o,.int .i64 n,.sl 2 (Rw J7 l.t),.int .i64 l.k,.bool l.e,.str s,.sl 7 (Rw C1 ks)]:=I6 _;have c0:=hl.len;rw[e];refine A9 [(7,.ord [0,1,2,3,4,5,6,7])] A6 Tryz.func49 rfl ?_;simp only[go_sem,seval,Tryz.results49];intro r g1 y g2;simp only[A5]at g2;have b0:r≠y:=fun e=>g2.1 e.symm;obtain⟨Z,hZ⟩: ∃Z:List D,Z= [.int .i64 0,.int .i64 0,.nilsl,.int .i64 0,.bool false,.str ⟨#[]⟩,.nilsl]:=⟨_,rfl⟩
 rw[←hZ];obtain⟨X,hX⟩: ∃X:List D,X= [.int .i64 o,.int .i64 n,.sl 2 (Rw J7 l.t),.int .i64 l.k,.bool l.e,.str s,.sl 7 (Rw C1 ks)]:=⟨_,rfl⟩
 rw[←hX];have e1:((H.set r (.box X)).set y (.box Z)) r=some (.box X):=by rw[A2 _ b0,A3]
 have e2:((H.set r (.box X)).set y (.box Z)) y=some (.box Z):=A3 _ _;have J:H.Le ((H.set r (.box X)).set y (.box Z)):=(A0 g1).trans (A0 (by simp only[A5];exact g2));generalize (H.set r (.box X)).set y (.box Z)=Bs at e1 e2 J⊢;rw[hX]at e1;repeat' (first|with_reducible apply D1H|simp only[go_sem,seval,e1]|simp(disch:=omega) only[A4,B3,B4]|simp(disch:=first|omega|grind) only[A8,D0]|(intro j;try simp only[A5]at j)|omega)
 refine B8O _ c0 _ fun td tb H1 M z O=>?_;have f1:H1 r=some (.box [.int .i64 o,.int .i64 n,.sl 2 (Rw J7 l.t),.int .i64 l.k,.bool l.e,.str s,.sl 7 (Rw C1 ks)]):=by rw[O r (fun m=>by have:=z r m;rw[e1]at this;cases this)];exact e1
 have f2:H1 y=some (.box Z):=by rw[O y (fun m=>by have:=z y m;rw[e2]at this;cases this)];exact e2
 have ot:=Q9 M.one;have oc:=M.cells;repeat' (first|with_reducible apply D1H|simp only[go_sem,seval,f1,ot,oc]|simp(disch:=omega) only[A4,B3,B4]|simp(disch:=first|omega|grind) only[A8,D0]|(intro j;try simp only[A5]at j)|omega)
 obtain⟨Cs,A⟩: ∃Cs,Cs=H1.set r (.box [.int .i64 o,.int .i64 n,td,.int .i64 l.k,.bool l.e,.str s,.nilsl]):=⟨_,rfl⟩
 rw[←A];have c1:Cs r=some (.box [.int .i64 o,.int .i64 n,td,.int .i64 l.k,.bool l.e,.str s,.nilsl]):=by rw[A];exact A3 _ _
 have c2:Cs y=some (.box Z):=by rw[A,A2 _ b0.symm];exact f2
 have b8: ∀b∈tb,b≠r:=fun b hb e=>by have:=z b hb;rw[e,e1]at this;cases this
 have c4: ∀b∈tb,b≠y:=fun b hb e=>by have:=z b hb;rw[e,e2]at this;cases this
 have U:SlAt Cs 2 (Rw J7 l.t) td tb:=M.mono fun b hb=>by rw[A];exact A2 _ (b8 b hb)
 have G:H.Le Cs:=fun k p hk=>by
  have k1:k≠r:=fun e=>by rw[e,g1]at hk;cases hk
  have k3:k∉tb:=fun m=>by have:=z k m;rw[J k p hk]at this;cases this
  rw[A,A2 _ k1,O k k3];exact J k p hk
 clear M f1 f2 O A e2;refine C8 [1,2,15,16] (fun(p:Nat×List (List D)×List Nat×Option Nat×Heap)=>[(17,.int .i64 p.1)]) (fun(p:Nat×List (List D)×List Nat×Option Nat×Heap)=>p.2.2.2.2) (fun(p:Nat×List (List D)×List Nat×Option Nat×Heap)=>p.1≤ks.length∧p.2.1.length=p.1∧p.2.2.2.2 r=some (.box [.int .i64 o,.int .i64 n,td,.int .i64 l.k,.bool l.e,.str s,H8 7 p.1 p.2.2.2.1])∧TrR [r] Cs (ks.take p.1) p.2.1 p.2.2.1 p.2.2.2.1 p.2.2.2.2) (fun(p:Nat×List (List D)×List Nat×Option Nat×Heap)=>ks.length-p.1) ((0,[],[],none,Cs)) (⟨D1c _,rfl,c1,A4t _ _⟩) (by(try simp only[go_sem,seval])<;>(try simp(disch:=omega) [A4])<;>(try omega)) (by first|exact D2i _|exact A0 (by assumption)|exact B9 (by assumption)|simp only[Heap.Le,Heap.set,Heap.del]at* <;>grind) ?_;rintro Ec rfl ⟨i,rows,bs,ob,Hp⟩ ⟨hi,b3,x1,T⟩;simp only at hi b3 x1 T;by_cases Y:i<ks.length
 ·have b4:decide ((i:Int)<ks.length)=true:=D1J (by omega);have c5:(i:Int)<ks.length:=by omega
  have b6: ∀{Q:D→Heap→Prop} (H:Heap) (h:TrQ Q H ks[i] .agg),D7 49 [.agg (C1 ks[i])] H Q:=ih ks[i] (D1V Y);repeat' (first|with_reducible apply D1H|simp only[go_sem,seval,b4,c5,B3 _ _ Y,C3 _ _ Y]|simp(disch:=omega) only[A4,B3,B4]|simp(disch:=first|omega|grind) only[A8,D0]|(intro j;try simp only[A5]at j)|omega)
  rename_i u;have h7:=j;clear j;have c6:r≠u:=fun e=>by rw[e,h7]at x1;cases x1
  have y1:(Hp.set u (.box (C1 ks[i]))) r=some (.box [.int .i64 o,.int .i64 n,td,.int .i64 l.k,.bool l.e,.str s,H8 7 i ob]):=by rw[A2 _ c6];exact x1
  have y7:(Hp.set u (.box (C1 ks[i]))) u=some (.box (C1 ks[i])):=A3 _ _;refine B11 [r,u] ?_;have m1:r∈[r,u]:=by simp
  have m7:u∈[r,u]:=by simp
  repeat' (first|with_reducible apply D1H|simp only[go_sem,seval,y1,y7,m1,m7]|simp(disch:=omega) only[A4,B3,B4]|simp(disch:=first|omega|grind) only[A8,D0]|(intro j;try simp only[A5]at j)|omega)
  all_goals first
   |(subst j;assumption)
   |skip
  refine b6 _ fun d B I ht hB hH=>?_;obtain⟨a0,a6,hd,o1,o2⟩:=ht.row;subst hd;have k1:I r=(Hp.set u (.box (C1 ks[i]))) r:=hH r (fun m=>by have:=hB r m;rw[y1]at this;cases this);have k7:I u=(Hp.set u (.box (C1 ks[i]))) u:=hH u (fun m=>by have:=hB u m;rw[y7]at this;cases this);have kk: ∀k∈[r,u],I k=(Hp.set u (.box (C1 ks[i]))) k:=fun k hk=>by
   simp only[D1j,D1k,or_false]at hk;rcases hk with rfl|rfl
   ·exact k1
   ·exact k7
  refine⟨.inr kk,?_⟩;have p1:I r≠none:=by rw[k1,y1];simp
  have p7:I u≠none:=by rw[k7,y7];simp
  repeat' (first|with_reducible apply D1H|simp only[go_sem,seval,Q9 o1,Q9 o2]|simp(disch:=omega) only[A4,B3,B4]|simp(disch:=first|omega|grind) only[A8,D0]|(intro j;try simp only[A5]at j)|omega)
  rename_i x;have hx:=j;clear j;have cb: ∀c,ob=some c→c≠r∧c≠u:=fun c e=>by
   subst e;refine⟨fun g=>?_,fun g=>?_⟩
   ·have:=(T.obn c rfl).1;rw[g,c1]at this;cases this
   ·have hc:Hp c=some _:=T.out;rw[g,h7]at hc;cases hc
  refine A2R rows (by simp) b3.symm (T.out1 (A0 h7) hB hH hx _) (by simp only[D1M,D1O];omega) (by simp only[D1M,D1O];omega) fun b' a9=>?_;have T':=T.step (A0 h7) ht hB hH hx a9;have kd: ∀(W:Heap) k,k∈[r,u]→I3 W ob k=W k:=fun W k hk=>by
   cases ob with
   |none=>rfl
   |some c=>
    obtain⟨q1,q7⟩:=cb c rfl;simp only[D1j,D1k,or_false]at hk;show Heap.del _ c k=_;rcases hk with rfl|rfl
    ·exact D0 q1.symm
    ·exact D0 q7.symm
  have kx: ∀o,∀k∈[r,u],(I.set x o) k=I k:=fun o k hk=>A2 _ (fun e=>by
   simp only[D1j,D1k,or_false]at hk;rcases hk with rfl|rfl
   ·exact p1 (e ▸ hx)
   ·exact p7 (e ▸ hx))
  have ke: ∀o,∀k∈[r,u],((I3 (I.set x (.vec 7 [[.int .i64 ks[i].op,.int .i64 ks[i].n,a0,.int .i64 ks[i].l.k,.bool ks[i].l.e,.str ks[i].s,a6]])) ob).set b' o) k=I k:=fun o k hk=>by
   have:k≠b':=fun e=>by
    rw[←e,kd _ k hk,kx _ k hk]at a9;simp only[D1j,D1k,or_false]at hk;rcases hk with rfl|rfl
    ·exact p1 a9
    ·exact p7 a9
   rw[A2 _ this,kd _ k hk,kx _ k hk]
  refine⟨.inr fun k hk=>by rw[ke _ k hk,kx _ k hk],?_⟩;have w1:=ke (.vec 7 (rows++[[.int .i64 ks[i].op,.int .i64 ks[i].n,a0,.int .i64 ks[i].l.k,.bool ks[i].l.e,.str ks[i].s,a6]])) r m1;rw[k1,y1]at w1;have T2:=T'.box (b:=r) (by simp) (by rw[c1];simp);clear T' ke kx kd kk k1 k7;revert T2 w1;generalize (I3 (I.set x (.vec 7 [[.int .i64 ks[i].op,.int .i64 ks[i].n,a0,.int .i64 ks[i].l.k,.bool ks[i].l.e,.str ks[i].s,a6]])) ob).set b' (.vec 7 (rows++[[.int .i64 ks[i].op,.int .i64 ks[i].n,a0,.int .i64 ks[i].l.k,.bool ks[i].l.e,.str ks[i].s,a6]]))=V;intro w1 T2;repeat' (first|with_reducible apply D1H|simp only[go_sem,seval,w1,m1]|simp(disch:=omega) only[A4,B3,B4]|simp(disch:=first|omega|grind) only[A8,D0]|(intro j;try simp only[A5]at j)|omega)
  all_goals first
   |(subst j;assumption)
   |skip
  exact C4 (i+1,rows++[_],bs++B,some b',_) ⟨by simp only[];omega,by simp only[D1N,D1P];omega,A3 _ _,by rw[D1a Y];exact T2 _⟩ (by simp only[];omega) (by(try simp only[go_sem,seval])<;>(try simp(disch:=omega) [A4])<;>(try omega)) (D2i _)
 ·have b4:decide ((i:Int)<ks.length)=false:=D1K (by omega);have c9:i=ks.length:=by omega
  rw[D1W (by omega)]at T;have b9:=T.keep y _ (by simpa using b0.symm) c2;rw[hZ]at b9;have o1:=A1Y 7 i ob;repeat' (first|with_reducible apply D1H|simp only[go_sem,seval,b4,x1,b9,o1]|simp(disch:=omega) only[A4,B3,B4]|simp(disch:=first|omega|grind) only[A8,D0]|(intro j;try simp only[A5]at j)|omega)
  have c7:SlAt Hp 2 (Rw J7 l.t) td tb:=U.mono fun b hb=>by
   obtain⟨p,hp⟩:=U.ex hb;rw[hp];exact T.keep b _ (by simpa using b8 b hb) hp
  have T1:=(T.tr' (o:=o) (n:=n) (l:=l) (s:=s) c7 (B2L U) (fun b hb=>by obtain⟨p,hp⟩:=U.ex hb;rw[hp];simp) (m:=i) b3.symm)
  have c8: ∀b∈tb++(ob.toList++bs),H b=none:=fun b hb=>by
   rcases D1h.1 hb with h|h
   ·exact J.none (z b h)
   ·rcases D1h.1 h with h|h
    ·cases ob with
     |none=>cases h
     |some c=>rw[Option.toList_some,D1i]at h;subst h;exact G.none (T.obn b rfl).1
    ·exact G.none (T.new b h)
  have b6: ∀b∈tb++(ob.toList++bs),b≠y:=fun b hb=>by
   rcases D1h.1 hb with h|h
   ·exact c4 b h
   ·rcases D1h.1 h with h|h
    ·cases ob with
     |none=>cases h
     |some c=>
      rw[Option.toList_some,D1i]at h;subst h;have:=(T.obn b rfl).1;exact fun e=>(by rw[e,c2]at this;cases this)
    ·have:=T.new b h;exact fun e=>(by rw[e,c2]at this;cases this)
  refine A2h (k:=.agg) (T1.mono fun b hb=>by rw[A2 _ (b6 b hb)]) c8 (fun q p hq=>?_) h;have q1:q≠r:=fun e=>by rw[e,g1]at hq;cases hq
  have q2:q≠y:=fun e=>by rw[e,g2.2]at hq;cases hq
  rw[A2 _ q2];exact T.keep q p (by simpa using q1) (G q p hq)
end Go.Proofs.YtibphjonmikciaaGreatDoor
namespace Go.Fo
open Go Go.Av Go.Lexs Go.Lin
theorem C0v(H:Heap):Tr H zeroF [.int .i64 0,.int .i64 0,.nilsl,.int .i64 0,.bool false,.str ⟨#[]⟩,.nilsl] []:=by
 unfold zeroF;rw[Tr];exact⟨.nilsl,.nilsl,[],[],[],[],rfl,.inl ⟨rfl,rfl,.inl rfl⟩,.inl ⟨rfl,rfl,.inl rfl⟩,by rw[Tr.trK];exact⟨rfl,rfl⟩,rfl,List.nodup_nil⟩
theorem TrQ.zero{Q:D→Heap→Prop}{H:Heap}{k:List D→D}(h:TrQ Q H zeroF k):Q (k [.int .i64 0,.int .i64 0,.nilsl,.int .i64 0,.bool false,.str ⟨#[]⟩,.nilsl]) H:=h _ [] _ (C0v H) (by simp) fun _ _=>rfl
theorem Tr.set{H:Heap}{f:Fm}{d:List D}{B:List Nat}{x:Nat}{o:Av.Obj}(ht:Tr H f d B)(hx:H x=none):Tr (H.set x o) f d B:=ht.mono fun b hb=>A2 _ fun e=>ht.held b hb (by rw[e];exact hx)
theorem A5n{H i:Heap}{j:List Nat}{b:Nat}{o:Av.Obj}(h:H b=some o)(hB: ∀b∈j,H b=none)(p: ∀b,b∉j→i b=H b):i b=some o:=by
 rw[p b fun m=>by have:=hB b m;rw[h]at this;cases this];exact h
theorem A34{H0 H i:Heap}{j:List Nat}(h:H0.Le H)(hB: ∀b∈j,H b=none)(m: ∀b,b∉j→i b=H b):H0.Le i:=fun k o hk=>A5n (h k o hk) hB m
end Go.Fo
namespace Go.Proofs.YtibphjonmikciaaGreatDoor
open Go Go.Av Go.Lexs Go.Lin Go.Fo
attribute [local irreducible] ACalls S9
theorem B31{Q}{g:Fm}(i:FmFit g)(m:VOk g){H:Heap}{d:List D}{B:List Nat}(ht:Tr H g d B)(h:Q (.bool (D8 g)) H):D7 18 [.agg d] H Q:=
 X5 (args':=[.agg (C1 g)]) rfl (fun j d d' h1 o=>by
  match j with
  |0=>cases h1;cases o;exact ht.agg
  |j+1=>cases h1) (P3 _ i m _ ⟨rfl,h⟩)
set_option maxHeartbeats 4000000 in
theorem C7k{Q}(f:Fm)(U:FmFit f)(vo:VOk f)(H:Heap)(h:TrQ Q H (notF f).1 fun d=>.tuple [.agg d,.int .i64 (notF f).2]):D7 16 [.agg (C1 f)] H Q:=by
 refine A9 [] A6 Tryz.func16 rfl ?_;simp only[go_sem,seval,Tryz.results16];intro u g1 j y;simp only[A5]at y;have V:u≠j:=fun e=>y.1 e.symm;have e1:((H.set u (.box (C1 f))).set j (.box [.int .i64 0,.int .i64 0,.nilsl,.int .i64 0,.bool false,.str ⟨#[]⟩,.nilsl])) u=some (.box (C1 f)):=by rw[A2 _ V,A3]
 have e2:((H.set u (.box (C1 f))).set j (.box [.int .i64 0,.int .i64 0,.nilsl,.int .i64 0,.bool false,.str ⟨#[]⟩,.nilsl])) j=some (.box [.int .i64 0,.int .i64 0,.nilsl,.int .i64 0,.bool false,.str ⟨#[]⟩,.nilsl]):=A3 _ _;have m:H.Le ((H.set u (.box (C1 f))).set j (.box [.int .i64 0,.int .i64 0,.nilsl,.int .i64 0,.bool false,.str ⟨#[]⟩,.nilsl])):=(A0 g1).trans (A0 (by simp only[A5];exact y));generalize (H.set u (.box (C1 f))).set j (.box [.int .i64 0,.int .i64 0,.nilsl,.int .i64 0,.bool false,.str ⟨#[]⟩,.nilsl])=Bs at e1 e2 m⊢;have W: ∀x,H.Le (Bs.set j x):=fun x=>F3 m y.2;have J:=fun(Q:D→Heap→Prop) (H:Heap)=>P3 (Q:=Q) f U vo H;unfold notF at h;cases hv:D8 f with
 |false=>
  rw[hv]at h J;simp only[D1X,if_false]at h;repeat' (first|with_reducible apply D1H|simp only[go_sem,seval,e1,e2]|simp(disch:=omega) only[B4]|(intro i;try simp only[A5]at i)|with_reducible refine J _ _ ?_|omega)
  exact D2j (W _) h.zero
 |true=>
  rw[hv]at h J;simp only[if_true]at h;have p:=M0 hv;have a0:=A6o hv;obtain⟨nf,nw⟩:=A3v f true p U;have nv:VOk (normF f true):=.inl (by omega);have nc:=fun(Q:D→Heap→Prop) (H:Heap)=>A3z (Q:=Q) f p U true H;have cc: ∀{Q:D→Heap→Prop} (H:Heap) (h:TrQ Q H (normF f true) .agg),D7 49 [.agg (C1 (normF f true))] H Q:=B30 _ nf;generalize normF f true=g at h nc cc nf nw nv;repeat' (first|with_reducible apply D1H|simp only[go_sem,seval,e1]|simp(disch:=omega) only[B4]|(intro i;try simp only[A5]at i)|with_reducible refine J _ _ ?_|with_reducible refine nc _ _ ?_|omega)
  refine cc _ fun d B z ht hB hH=>?_;have k2:=A5n e2 hB hH;have A:=A34 m hB hH;have hf: ∀b∈B,H b=none:=fun b hb=>m.none (hB b hb);have M:=fun {Q:D→Heap→Prop} {H:Heap} {d:List D} {B:List Nat}=>B31 (Q:=Q) nf nv (H:=H) (d:=d) (B:=B);obtain⟨td,kd,hd,o1,o2⟩:=ht.row;have m1:=Q9 o1;have m2:=Q9 o2;subst hd;repeat' (first|with_reducible apply D1H|simp only[go_sem,seval,m1,m2]|simp(disch:=omega) only[B4]|(intro i;try simp only[A5]at i)|omega)
  rename_i q;have O:=i;clear i;have X:j≠q:=fun e=>by rw[←e,k2]at O;cases O
  have T:=ht.set (o:=.box [.int .i64 g.op,.int .i64 g.n,td,.int .i64 g.l.k,.bool g.l.e,.str g.s,kd]) O;have G:(z.set q (.box [.int .i64 g.op,.int .i64 g.n,td,.int .i64 g.l.k,.bool g.l.e,.str g.s,kd])) q=some (.box [.int .i64 g.op,.int .i64 g.n,td,.int .i64 g.l.k,.bool g.l.e,.str g.s,kd]):=A3 _ _;have Y:(z.set q (.box [.int .i64 g.op,.int .i64 g.n,td,.int .i64 g.l.k,.bool g.l.e,.str g.s,kd])) j=some (.box [.int .i64 0,.int .i64 0,.nilsl,.int .i64 0,.bool false,.str ⟨#[]⟩,.nilsl]):=by rw[A2 _ X];exact k2
  have I:H.Le (z.set q (.box [.int .i64 g.op,.int .i64 g.n,td,.int .i64 g.l.k,.bool g.l.e,.str g.s,kd])):=A.trans (A0 O);have r: ∀x,H.Le ((z.set q (.box [.int .i64 g.op,.int .i64 g.n,td,.int .i64 g.l.k,.bool g.l.e,.str g.s,kd])).set j x):=fun x=>F3 I y.2;have nb: ∀b∈B,b≠j:=fun b hb e=>by have:=ht.held b hb;rw[e]at hb;have:=hB _ hb;rw[e2]at this;cases this
  generalize z.set q (.box [.int .i64 g.op,.int .i64 g.n,td,.int .i64 g.l.k,.bool g.l.e,.str g.s,kd])=Cs at G Y I r T⊢;cases hg:D8 g with
  |false=>
   rw[hg]at h M;simp only[D1X,if_false]at h;repeat' (first|with_reducible apply D1H|simp only[go_sem,seval,G]|simp(disch:=omega) only[B4]|(intro i;try simp only[A5]at i)|omega)
   refine M T ?_;repeat' (first|with_reducible apply D1H|simp only[go_sem,seval,G,Y]|simp(disch:=omega) only[B4]|(intro i;try simp only[A5]at i)|omega)
   exact D2j (r _) h.zero
  |true=>
   rw[hg]at h M;simp only[if_true]at h;repeat' (first|with_reducible apply D1H|simp only[go_sem,seval,G]|simp(disch:=omega) only[B4]|(intro i;try simp only[A5]at i)|omega)
   refine M T ?_;repeat' (first|with_reducible apply D1H|simp only[go_sem,seval,G,Y,m1,m2]|simp(disch:=omega) only[B4]|(intro i;try simp only[A5]at i)|omega)
   exact A2h (k:=fun d=>.tuple [.agg d,.int .i64 0]) (T.mono fun b hb=>A2 _ (nb b hb)) hf (r _) h
set_option maxHeartbeats 8000000 in
theorem B8P{Q}(o:Int)(ho:o=5∨o=6)(l:List Fm)(fl: ∀f∈l,FmFit f)(hlen:l.length≤1466015503658)(vl: ∀f∈l,VOk f)(hw:l.all D8=true→J9.wtL l≤900000)(H:Heap)(h:TrQ Q H (bothF o l).1 fun d=>.tuple [.agg d,.int .i64 (bothF o l).2]):D7 67 [.int .i64 o,.sl 7 (Rw C1 l)] H Q:=by
 refine A9 [(9,.ord [0,1,2,3,4,5,6,7])] A6 Tryz.func67 rfl ?_;simp only[go_sem,seval,Tryz.results67];intro y g4;obtain⟨Z,hZ⟩: ∃Z:List D,Z= [.int .i64 0,.int .i64 0,.nilsl,.int .i64 0,.bool false,.str ⟨#[]⟩,.nilsl]:=⟨_,rfl⟩
 rw[←hZ];have X:(H.set y (.box Z)) y=some (.box Z):=A3 _ _;have G:H.Le (H.set y (.box Z)):=A0 g4;generalize H.set y (.box Z)=Bs at X G⊢;have a6: ∀x,H.Le (Bs.set y x):=fun x=>F3 G g4;have cc:=fun(Q:D→Heap→Prop) (H:Heap)=>A6m (Q:=Q) (fun f=> !D8 f) l (by omega) 113 [] [] H (fun k hk _ Q hq=>B3z l[k] (fl _ (D1V hk)) (vl _ (D1V hk)) H hq);rw[B1U]at cc;unfold bothF at h;cases hv:l.all D8 with
 |false=>
  rw[hv]at h cc;simp only[D1X,if_false]at h;rw[hZ]at X;repeat' (first|with_reducible apply D1H|simp only[go_sem,seval,X]|simp(disch:=omega) only[A4,B3,B4]|simp(disch:=first|omega|grind) only[A8,D0]|intro j|with_reducible refine cc _ _ ?_|omega)
  exact D2j (a6 _) h.zero
 |true=>
  rw[hv]at h cc;simp only[if_true]at h;have hw:=hw hv;have nc:=fun(Q:D→Heap→Prop) (H:Heap)=>A5h (Q:=Q) l fl hlen H;have bc:=fun(Q:D→Heap→Prop) (H:Heap)=>A9H (Q:=Q) (J2 (D9.intsL l)) (J2 (D1.boolsL l)) H;rw[A0L (l':=D9.intsL l) (m':=D1.boolsL l) (fun x=>F6 _ _) (fun x=>F6 _ _)]at bc;cases hm:meetL (D9.intsL l) (D1.boolsL l)with
  |true=>
   rw[hm]at h bc;simp only[if_true]at h;rw[hZ]at X;repeat' (first|with_reducible apply D1H|simp only[go_sem,seval,X]|simp(disch:=omega) only[A4,B3,B4]|simp(disch:=first|omega|grind) only[A8,D0]|intro j|with_reducible refine cc _ _ ?_|with_reducible refine nc _ _ ?_|with_reducible refine bc _ _ ?_|omega)
   exact D2j (a6 _) h.zero
  |false=>
   rw[hm]at h bc;simp only[D1X,if_false]at h;repeat' (first|with_reducible apply D1H|simp only[go_sem,seval]|simp(disch:=omega) only[A4,B3,B4]|simp(disch:=first|omega|grind) only[A8,D0]|intro j|with_reducible refine cc _ _ ?_|with_reducible refine nc _ _ ?_|with_reducible refine bc _ _ ?_|omega)
   rename_i r;have h6:=j;clear j;have a9:y≠r:=fun e=>by rw[←e,X]at h6;cases h6
   have c6:(Bs.set r (.box [.int .i64 o,.int .i64 0,.nilsl,.int .i64 0,.bool false,.str ⟨#[]⟩,.nilsl])) r=some (.box [.int .i64 o,.int .i64 0,.nilsl,.int .i64 0,.bool false,.str ⟨#[]⟩,.nilsl]):=A3 _ _;have c4:(Bs.set r (.box [.int .i64 o,.int .i64 0,.nilsl,.int .i64 0,.bool false,.str ⟨#[]⟩,.nilsl])) y=some (.box Z):=by rw[A2 _ a9];exact X
   have z:H.Le (Bs.set r (.box [.int .i64 o,.int .i64 0,.nilsl,.int .i64 0,.bool false,.str ⟨#[]⟩,.nilsl])):=G.trans (A0 h6);have b3:H r=none:=G.none h6;generalize Bs.set r (.box [.int .i64 o,.int .i64 0,.nilsl,.int .i64 0,.bool false,.str ⟨#[]⟩,.nilsl])=Cs at c6 c4 z⊢;refine C8 [4,6,20,21] (fun(p:Nat×List (List D)×List Nat×Option Nat×Heap)=>[(22,.int .i64 p.1)]) (fun(p:Nat×List (List D)×List Nat×Option Nat×Heap)=>p.2.2.2.2) (fun(p:Nat×List (List D)×List Nat×Option Nat×Heap)=>p.1≤l.length∧p.2.1.length=p.1∧p.2.2.2.2 r=some (.box [.int .i64 o,.int .i64 0,.nilsl,.int .i64 0,.bool false,.str ⟨#[]⟩,H8 7 p.1 p.2.2.2.1])∧TrR [r] Cs (l.take p.1) p.2.1 p.2.2.1 p.2.2.2.1 p.2.2.2.2) (fun(p:Nat×List (List D)×List Nat×Option Nat×Heap)=>l.length-p.1) ((0,[],[],none,Cs)) (⟨D1c _,rfl,c6,A4t _ _⟩) (by(try simp only[go_sem,seval])<;>(try simp(disch:=omega) [A4])<;>(try omega)) (by first|exact D2i _|exact A0 (by assumption)|exact B9 (by assumption)|simp only[Heap.Le,Heap.set,Heap.del]at* <;>grind) ?_;rintro Ec rfl ⟨i,rows,bs,ob,Hp⟩ ⟨hi,Y,x1,T⟩;simp only at hi Y x1 T;by_cases I:i<l.length
   ·have J:decide ((i:Int)<l.length)=true:=D1J (by omega);have b8:(i:Int)<l.length:=by omega
    have b9: ∀{Q:D→Heap→Prop} (H:Heap) (h:TrQ Q H l[i] .agg),D7 49 [.agg (C1 l[i])] H Q:=B30 l[i] (fl _ (D1V I));repeat' (first|with_reducible apply D1H|simp only[go_sem,seval,J,b8,B3 _ _ I,C3 _ _ I]|simp(disch:=omega) only[A4,B3,B4]|simp(disch:=first|omega|grind) only[A8,D0]|intro j|omega)
    rename_i u;have h7:=j;clear j;have c0:r≠u:=fun e=>by rw[e,h7]at x1;cases x1
    have y1:(Hp.set u (.box (C1 l[i]))) r=some (.box [.int .i64 o,.int .i64 0,.nilsl,.int .i64 0,.bool false,.str ⟨#[]⟩,H8 7 i ob]):=by rw[A2 _ c0];exact x1
    have y7:(Hp.set u (.box (C1 l[i]))) u=some (.box (C1 l[i])):=A3 _ _;refine B11 [r,u] ?_;have m1:r∈[r,u]:=by simp
    have m7:u∈[r,u]:=by simp
    repeat' (first|with_reducible apply D1H|simp only[go_sem,seval,y1,y7,m1,m7]|simp(disch:=omega) only[A4,B3,B4]|simp(disch:=first|omega|grind) only[A8,D0]|intro j|omega)
    all_goals first
     |(subst j;assumption)
     |skip
    refine b9 _ fun d B A ht hB hH=>?_;obtain⟨M,O,hd,o1,o2⟩:=ht.row;subst hd;have k1:A r=(Hp.set u (.box (C1 l[i]))) r:=hH r (fun m=>by have:=hB r m;rw[y1]at this;cases this);have k7:A u=(Hp.set u (.box (C1 l[i]))) u:=hH u (fun m=>by have:=hB u m;rw[y7]at this;cases this);have kk: ∀k∈[r,u],A k=(Hp.set u (.box (C1 l[i]))) k:=fun k hk=>by
     simp only[D1j,D1k,or_false]at hk;rcases hk with rfl|rfl
     ·exact k1
     ·exact k7
    refine⟨.inr kk,?_⟩;have p1:A r≠none:=by rw[k1,y1];simp
    have p7:A u≠none:=by rw[k7,y7];simp
    repeat' (first|with_reducible apply D1H|simp only[go_sem,seval,Q9 o1,Q9 o2]|simp(disch:=omega) only[A4,B3,B4]|simp(disch:=first|omega|grind) only[A8,D0]|intro j|omega)
    rename_i x;have hx:=j;clear j;have cb: ∀c,ob=some c→c≠r∧c≠u:=fun c e=>by
     subst e;refine⟨fun g=>?_,fun g=>?_⟩
     ·have:=(T.obn c rfl).1;rw[g,c6]at this;cases this
     ·have hc:Hp c=some _:=T.out;rw[g,h7]at hc;cases hc
    refine A2R rows (by simp) Y.symm (T.out1 (A0 h7) hB hH hx _) (by simp only[D1M,D1O];omega) (by simp only[D1M,D1O];omega) fun b' U=>?_;have T':=T.step (A0 h7) ht hB hH hx U;have kd: ∀(W:Heap) k,k∈[r,u]→I3 W ob k=W k:=fun W k hk=>by
     cases ob with
     |none=>rfl
     |some c=>
      obtain⟨q1,q7⟩:=cb c rfl;simp only[D1j,D1k,or_false]at hk;show Heap.del _ c k=_;rcases hk with rfl|rfl
      ·exact D0 q1.symm
      ·exact D0 q7.symm
    have kx: ∀o,∀k∈[r,u],(A.set x o) k=A k:=fun o k hk=>A2 _ (fun e=>by
     simp only[D1j,D1k,or_false]at hk;rcases hk with rfl|rfl
     ·exact p1 (e ▸ hx)
     ·exact p7 (e ▸ hx))
    have ke: ∀o,∀k∈[r,u],((I3 (A.set x (.vec 7 [[.int .i64 l[i].op,.int .i64 l[i].n,M,.int .i64 l[i].l.k,.bool l[i].l.e,.str l[i].s,O]])) ob).set b' o) k=A k:=fun o k hk=>by
     have:k≠b':=fun e=>by
      rw[←e,kd _ k hk,kx _ k hk]at U;simp only[D1j,D1k,or_false]at hk;rcases hk with rfl|rfl
      ·exact p1 U
      ·exact p7 U
     rw[A2 _ this,kd _ k hk,kx _ k hk]
    refine⟨.inr fun k hk=>by rw[ke _ k hk,kx _ k hk],?_⟩;have w1:=ke (.vec 7 (rows++[[.int .i64 l[i].op,.int .i64 l[i].n,M,.int .i64 l[i].l.k,.bool l[i].l.e,.str l[i].s,O]])) r m1;rw[k1,y1]at w1;have T2:=T'.box (b:=r) (by simp) (by rw[c6];simp);clear T' ke kx kd kk k1 k7;revert T2 w1;generalize (I3 (A.set x (.vec 7 [[.int .i64 l[i].op,.int .i64 l[i].n,M,.int .i64 l[i].l.k,.bool l[i].l.e,.str l[i].s,O]])) ob).set b' (.vec 7 (rows++[[.int .i64 l[i].op,.int .i64 l[i].n,M,.int .i64 l[i].l.k,.bool l[i].l.e,.str l[i].s,O]]))=V;intro w1 T2;repeat' (first|with_reducible apply D1H|simp only[go_sem,seval,w1,m1]|simp(disch:=omega) only[A4,B3,B4]|simp(disch:=first|omega|grind) only[A8,D0]|intro j|omega)
    all_goals first
     |(subst j;assumption)
     |skip
    exact C4 (i+1,rows++[_],bs++B,some b',_) ⟨by simp only[];omega,by simp only[D1N,D1P];omega,A3 _ _,by rw[D1a I];exact T2 _⟩ (by simp only[];omega) (by(try simp only[go_sem,seval])<;>(try simp(disch:=omega) [A4])<;>(try omega)) (D2i _)
   ·have J:decide ((i:Int)<l.length)=false:=D1K (by omega);have c2:i=l.length:=by omega
    rw[D1W (by omega)]at T;have a0:=T.keep y _ (by simpa using a9) c4;rw[hZ]at a0;have o1:=A1Y 7 i ob;have fo:FmFit (.mk o 0 nilL D5 l):=P7 (by rcases ho with rfl|rfl<;>simp[U3]) hlen fl;have vo:VOk (.mk o 0 nilL D5 l):=.inl (by rw[L7];simp only[Fm.l,Fm.ks,nilL,D1O];omega);have T1:Tr Hp (.mk o 0 nilL D5 l) [.int .i64 o,.int .i64 0,.nilsl,.int .i64 0,.bool false,.str ⟨#[]⟩,H8 7 i ob] ([]++(ob.toList++bs)):=T.tr' (tb:=[]) (l:=nilL) (s:=D5) (.inl ⟨rfl,rfl,.inl rfl⟩) List.nodup_nil (by simp) Y.symm;have vt:=fun(Q:D→Heap→Prop)=>B31 (Q:=Q) fo vo T1;have b0: ∀b∈[]++(ob.toList++bs),H b=none∧b≠y:=fun b hb=>by
     have hn:Cs b=none:=by
      rcases D1h.1 (D2T _ ▸ hb)with h|h
      ·cases ob with
       |none=>cases h
       |some c=>rw[Option.toList_some,D1i]at h;subst h;exact(T.obn b rfl).1
      ·exact T.new b h
     exact⟨z.none hn,fun e=>by rw[e,c4]at hn;cases hn⟩
    have b1: ∀x,H.Le (Hp.set y x):=fun x k q hk=>by
     have k4:k≠y:=fun e=>by rw[e,g4]at hk;cases hk
     have k6:k≠r:=fun e=>by rw[e,b3]at hk;cases hk
     rw[A2 _ k4];exact T.keep k q (by simpa using k6) (z _ _ hk)
    cases b2:D8 (.mk o 0 nilL D5 l)with
    |false=>
     rw[b2]at h vt;simp only[D1X,if_false]at h;repeat' (first|with_reducible apply D1H|simp only[go_sem,seval,J,x1,a0,o1]|simp(disch:=omega) only[A4,B3,B4]|simp(disch:=first|omega|grind) only[A8,D0]|intro j|with_reducible refine vt _ ?_|omega)
     exact D2j (b1 _) h.zero
    |true=>
     rw[b2]at h vt;simp only[if_true]at h;repeat' (first|with_reducible apply D1H|simp only[go_sem,seval,J,x1,a0,o1]|simp(disch:=omega) only[A4,B3,B4]|simp(disch:=first|omega|grind) only[A8,D0]|intro j|with_reducible refine vt _ ?_|omega)
     exact A2h (k:=fun d=>.tuple [.agg d,.int .i64 0]) (T1.mono fun b hb=>A2 _ (b0 b hb).2) (fun b hb=>(b0 b hb).1) (b1 _) h
theorem C7l{Q}(l:List Fm)(o: ∀f∈l,FmFit f)(hlen:l.length≤1466015503658)(p: ∀f∈l,VOk f)(hw:l.all D8=true→J9.wtL l≤900000)(H:Heap)(h:TrQ Q H (bothF 5 l).1 fun d=>.tuple [.agg d,.int .i64 (bothF 5 l).2]):D7 24 [.sl 7 (Rw C1 l)] H Q:=by
 refine A9 [] A6 Tryz.func24 rfl ?_;simp only[go_sem,seval,Tryz.results24];repeat' (first|with_reducible apply D1H|simp only[go_sem,seval]|simp(disch:=omega) only[B4]|intro i|omega)
 rename_i x;have hx:=i;clear i;refine B8P 5 (.inl rfl) l o hlen p hw _ fun d B q ht hB m=>?_;obtain⟨td,kd,hd,o1,o2⟩:=ht.row;subst hd;have j:=A5n (A3 _ _) hB m;repeat' (first|with_reducible apply D1H|simp only[go_sem,seval,Q9 o1,Q9 o2,j]|simp(disch:=omega) only[B4]|intro i|omega)
 have nx: ∀b∈B,b≠x:=fun b hb e=>by have:=hB b hb;rw[e,A3]at this;cases this
 exact A2h (k:=fun d=>.tuple [.agg d,.int .i64 (bothF 5 l).2]) (ht.mono fun b hb=>A2 _ (nx b hb)) (fun b hb=>by have:=hB b hb;rwa [A2 _ (nx b hb)]at this) (F3 (A34 (A0 hx) hB m) hx) h
theorem C97{Q}(l:List Fm)(o: ∀f∈l,FmFit f)(hlen:l.length≤1466015503658)(p: ∀f∈l,VOk f)(hw:l.all D8=true→J9.wtL l≤900000)(H:Heap)(h:TrQ Q H (bothF 6 l).1 fun d=>.tuple [.agg d,.int .i64 (bothF 6 l).2]):D7 26 [.sl 7 (Rw C1 l)] H Q:=by
 refine A9 [] A6 Tryz.func26 rfl ?_;simp only[go_sem,seval,Tryz.results26];repeat' (first|with_reducible apply D1H|simp only[go_sem,seval]|simp(disch:=omega) only[B4]|intro i|omega)
 rename_i x;have hx:=i;clear i;refine B8P 6 (.inr rfl) l o hlen p hw _ fun d B q ht hB m=>?_;obtain⟨td,kd,hd,o1,o2⟩:=ht.row;subst hd;have j:=A5n (A3 _ _) hB m;repeat' (first|with_reducible apply D1H|simp only[go_sem,seval,Q9 o1,Q9 o2,j]|simp(disch:=omega) only[B4]|intro i|omega)
 have nx: ∀b∈B,b≠x:=fun b hb e=>by have:=hB b hb;rw[e,A3]at this;cases this
 exact A2h (k:=fun d=>.tuple [.agg d,.int .i64 (bothF 6 l).2]) (ht.mono fun b hb=>A2 _ (nx b hb)) (fun b hb=>by have:=hB b hb;rwa [A2 _ (nx b hb)]at this) (F3 (A34 (A0 hx) hB m) hx) h
end Go.Proofs.YtibphjonmikciaaGreatDoor
namespace Go.Fo
open Go Go.Av Go.Lexs Go.Lin
theorem B8Q{L:Array Bool}{i:Nat}(m:i<L.size)(j:Nat):(L.setIfInBounds i true).getD j false=if i=j then true else L.getD j false:=by
 by_cases h:i=j
 ·subst h;rw[if_pos rfl];simp[Array.getD,m]
 ·rw[if_neg h,Q3 h]
theorem Tr.le{H H':Heap}{f:Fm}{d:List D}{B:List Nat}(ht:Tr H f d B)(h:H.Le H'):Tr H' f d B:=ht.mono fun b hb=>by
 cases ho:H b with
 |none=>exact absurd ho (ht.held b hb)
 |some o=>exact h b o ho
theorem Tr.nobox{H:Heap}{f:Fm}{d:List D}{B:List Nat}(ht:Tr H f d B){b:Nat}{cs:List D}{T:Option TypeId}(hb:H b=some (.box cs T)):b∉B:=fun m=>by
 obtain⟨o,h1,h⟩:=ht.loose.2 b m;rw[hb]at h1;cases h1;cases h
structure OwP(H0:Heap)(f g:Fm)(Z:List D)(L:Nat→Bool)(F:FEnv)(H:Heap):Prop where
 le:H0.Le H
 l0:L 0=true→F 22= .agg (C1 f)
 l2:L 2=true→F 24= .agg (C1 g)
 c1:L 1=true→L 0=true∧∃d B,F 23= .agg d∧Tr H f d B∧∀b∈B,H0 b=none
 c3:L 3=true→L 2=true∧L 1=true∧∃d B e C,F 23= .agg d∧F 25= .agg e∧Tr H f d B∧Tr H g e C∧(∀b∈B,H0 b=none)∧(∀b∈C,H0 b=none)∧∀b∈B,b∉C
 a4:L 4=true→∃b,F 5= .box b 0∧H0 b=none∧H b=some (.box Z)
 a5:L 5=true→∃b,F 6= .box b 0∧H0 b=none∧H b=some (.box Z)
 ne:L 4=true→L 5=true→F 5≠F 6
theorem OwP.to{H0:Heap}{f g:Fm}{Z:List D}{L:Nat→Bool}{F:FEnv}{H H':Heap}(P:OwP H0 f g Z L F H)(h:H.Le H'):OwP H0 f g Z L F H':=
 ⟨P.le.trans h,P.l0,P.l2,fun k=>let ⟨a,d,B,h1,h2,h3⟩:=P.c1 k;⟨a,d,B,h1,h2.le h,h3⟩,
  fun k=>let ⟨a,a',d,B,e,C,h1,h2,h3,h4,h5⟩:=P.c3 k;⟨a,a',d,B,e,C,h1,h2,h3.le h,h4.le h,h5⟩,
  fun k=>let ⟨b,h1,h2,h3⟩:=P.a4 k;⟨b,h1,h2,h _ _ h3⟩,fun k=>let ⟨b,h1,h2,h3⟩:=P.a5 k;⟨b,h1,h2,h _ _ h3⟩,P.ne⟩
def lst(L:Array Bool):Nat→Bool:=fun j=>L.getD j false
def pt(L:Nat→Bool)(i:Nat):Nat→Bool:=fun j=>if i=j then true else L j
theorem C0w{L:Array Bool}{i:Nat}(h:i<L.size):lst (L.setIfInBounds i true)=pt (lst L) i:=funext fun j=>B8Q h j
section
variable {H0:Heap} {f g:Fm} {Z:List D} {L:Nat→Bool} {F:FEnv} {H:Heap}
theorem B5R(h: ∀j,L j=false):OwP H0 f g Z L F H0:=by
 have k: ∀{j} {p:Prop},L j=true→p:=fun {j} {p} e=>by rw[h j]at e;cases e
 exact⟨D2i _,fun e=>k e,fun e=>k e,fun e=>k e,fun e=>k e,fun e=>k e,fun e=>k e,fun e=>k e⟩
theorem OwP.op0(P:OwP H0 f g Z L F H):OwP H0 f g Z (pt L 0) (F.put (some 22) (.agg (C1 f))) H:=
 ⟨P.le,fun _=>rfl,P.l2,fun h=>⟨rfl,(P.c1 h).2⟩,P.c3,P.a4,P.a5,P.ne⟩
theorem OwP.op2(P:OwP H0 f g Z L F H):OwP H0 f g Z (pt L 2) (F.put (some 24) (.agg (C1 g))) H:=
 ⟨P.le,P.l0,fun _=>rfl,P.c1,fun h=>⟨rfl,(P.c3 h).2⟩,P.a4,P.a5,P.ne⟩
theorem OwP.op1(j:L 0=true)(hn:L 3=false)(P:OwP H0 f g Z L F H){d:List D}{B:List Nat}{i:Heap}(ht:Tr i f d B)(hB: ∀b∈B,H b=none)(m: ∀b,b∉B→i b=H b):OwP H0 f g Z (pt L 1) (F.put (some 23) (.agg d)) i:=by
 have p:=P.to (A34 (D2i _) hB m);exact⟨p.le,p.l0,p.l2,fun _=>⟨j,d,B,rfl,ht,fun b hb=>P.le.none (hB b hb)⟩,fun h=>(by rw[show pt L 1 3=L 3 from rfl,hn]at h;cases h),p.a4,p.a5,p.ne⟩
theorem OwP.op3(m:L 2=true)(h1:L 1=true)(P:OwP H0 f g Z L F H){d:List D}{B:List Nat}{i:Heap}(ht:Tr i g d B)(hB: ∀b∈B,H b=none)(o: ∀b,b∉B→i b=H b):OwP H0 f g Z (pt L 3) (F.put (some 25) (.agg d)) i:=by
 obtain⟨_,d1,q,r,j,u⟩:=P.c1 h1;have h:=A34 (D2i _) hB o;have p:=P.to h;exact⟨p.le,p.l0,p.l2,p.c1,fun _=>⟨m,h1,d1,q,d,B,r,rfl,j.le h,ht,u,fun b hb=>P.le.none (hB b hb),fun b hb hm=>j.held b hb (hB b hm)⟩,p.a4,p.a5,p.ne⟩
theorem OwP.op4(P:OwP H0 f g Z L F H){b:Nat}(hb:H b=none):OwP H0 f g Z (pt L 4) (F.put (some 5) (.box b 0)) (H.set b (.box Z)):=by
 have p:=P.to (A0 (o:=.box Z) hb);refine⟨p.le,p.l0,p.l2,p.c1,p.c3,fun _=>⟨b,rfl,P.le.none hb,A3 _ _⟩,p.a5,fun _ h e=>?_⟩;obtain⟨c,h1,_,i⟩:=P.a5 h;have e':D.box b 0=F 6:=e;rw[h1]at e';cases e';rw[hb]at i;cases i
theorem OwP.op5(P:OwP H0 f g Z L F H){b:Nat}(hb:H b=none):OwP H0 f g Z (pt L 5) (F.put (some 6) (.box b 0)) (H.set b (.box Z)):=by
 have p:=P.to (A0 (o:=.box Z) hb);refine⟨p.le,p.l0,p.l2,p.c1,p.c3,p.a4,fun _=>⟨b,rfl,P.le.none hb,A3 _ _⟩,fun h _ e=>?_⟩;obtain⟨c,h1,_,i⟩:=P.a4 h;have e':F 5=D.box b 0:=e;rw[h1]at e';cases e';rw[hb]at i;cases i
structure OwS(H0:Heap)(f g:Fm)(F:FEnv)(H:Heap)(d:List D)(B:List Nat)(e:List D)(C:List Nat)(b c:Nat)(x y:List D):Prop where
 le:H0.Le H
 f23:F 23= .agg d
 f25:F 25= .agg e
 f5:F 5= .box b 0
 f6:F 6= .box c 0
 tf:Tr H f d B
 tg:Tr H g e C
 nf: ∀b∈B,H0 b=none
 ng: ∀b∈C,H0 b=none
 dis: ∀b∈B,b∉C
 nb:H0 b=none
 nc:H0 c=none
 hb:H b=some (.box x)
 hc:H c=some (.box y)
 bc:b≠c
theorem OwP.all(P:OwP H0 f g Z L F H)(j:L 3=true)(h:L 4=true)(h5:L 5=true):(∀i,i<6→L i=true)∧∃d B e C b c,OwS H0 f g F H d B e C b c Z Z:=by
 obtain⟨p,m,d,B,e,C,q,r,u,x,w5,w6,y⟩:=P.c3 j;obtain⟨b,o,z,A⟩:=P.a4 h;obtain⟨c,v1,v2,v3⟩:=P.a5 h5;refine⟨fun i G=>?_,d,B,e,C,b,c,P.le,q,r,o,v1,u,x,w5,w6,y,z,v2,A,v3,fun e=>P.ne h h5 (by rw[o,v1,e])⟩
 match i,G with
 |0,_=>exact(P.c1 m).1
 |1,_=>exact m
 |2,_=>exact p
 |3,_=>exact j
 |4,_=>exact h
 |5,_=>exact h5
theorem OwS.st6{d e x y:List D}{B C:List Nat}{b c:Nat}(S:OwS H0 f g F H d B e C b c x y)(z:List D):OwS H0 f g F (H.set b (.box z)) d B e C b c z y:=
 ⟨fun k o hk=>by rw[A2 _ (fun e=>by rw[e,S.nb]at hk;cases hk)];exact S.le k o hk,S.f23,S.f25,S.f5,S.f6,S.tf.mono fun k hk=>A2 _ fun e=>S.tf.nobox S.hb (by rw[←e];exact hk),S.tg.mono fun k hk=>A2 _ fun e=>S.tg.nobox S.hb (by rw[←e];exact hk),
  S.nf,S.ng,S.dis,S.nb,S.nc,A3 _ _,by rw[A2 _ S.bc.symm];exact S.hc,S.bc⟩
theorem OwS.st7{d e x y:List D}{B C:List Nat}{b c:Nat}(S:OwS H0 f g F H d B e C b c x y)(z:List D):OwS H0 f g F (H.set c (.box z)) d B e C b c x z:=
 ⟨fun k o hk=>by rw[A2 _ (fun e=>by rw[e,S.nc]at hk;cases hk)];exact S.le k o hk,S.f23,S.f25,S.f5,S.f6,S.tf.mono fun k hk=>A2 _ fun e=>S.tf.nobox S.hc (by rw[←e];exact hk),S.tg.mono fun k hk=>A2 _ fun e=>S.tg.nobox S.hc (by rw[←e];exact hk),
  S.nf,S.ng,S.dis,S.nb,S.nc,by rw[A2 _ S.bc];exact S.hb,A3 _ _,S.bc⟩
def OwInv(H0:Heap)(f g:Fm)(Z:List D)(L:Nat→Bool)(F:FEnv)(H:Heap):Prop:=
 (L 6=false∧L 7=false∧OwP H0 f g Z L F H)∨((∀i,i<7→L i=true)∧∃d B e C b c y,OwS H0 f g F H d B e C b c d y∧(L 7=true→y=e)∧(L 7=false→y=Z))
theorem OwInv.pre(I:OwInv H0 f g Z L F H){i:Nat}(m:i<7)(j:L i=false):L 6=false∧L 7=false∧OwP H0 f g Z L F H:=I.resolve_right fun h=>by rw[h.1 i m]at j;cases j
end
structure OwT(H0:Heap)(f g:Fm)(d:List D)(B:List Nat)(e:List D)(C:List Nat)(b c:Nat)(H:Heap):Prop where
 le:H0.Le H
 tf:Tr H f d B
 tg:Tr H g e C
 hb:H b=some (.box d)
 hc:H c=some (.box e)
theorem OwT.to{H0:Heap}{f g:Fm}{d e:List D}{B C:List Nat}{b c:Nat}{H H':Heap}(T:OwT H0 f g d B e C b c H)(h:H.Le H'):OwT H0 f g d B e C b c H':=⟨T.le.trans h,T.tf.le h,T.tg.le h,h _ _ T.hb,h _ _ T.hc⟩
theorem B8R{H0 H H':Heap}{B:List Nat}(h:H0.Le H)(hB: ∀b∈B,H0 b=none)(i: ∀b,b∉B→H' b=H b):H0.Le H':=fun k o hk=>by
 rw[i k fun m=>by rw[hB k m]at hk;cases hk];exact h k o hk
theorem Z2{H H':Heap}{f:Fm}{d cs:List D}{B:List Nat}{b:Nat}(h:H b=some (.box cs))(ht:Tr H f d B)(i: ∀b,b∉B→H' b=H b):H' b=some (.box cs):=by
 rw[i b (ht.nobox h)];exact h
theorem B8S(n j:Nat):(Array.replicate n false).getD j false=false:=by
 simp only[Array.getD];split<;>simp
theorem A9S(n j:Nat):lst (Array.replicate n false) j=false:=B8S n j
theorem B5I{E:Env}{F:FEnv}{t:Nat}{l:List Nat}:A6D E F (t::l)=(t,F t)::A6D E F l:=rfl
theorem B8T{E:Env}{F:FEnv}:A6D E F []=E:=rfl
theorem A8K{F:FEnv}{t:Nat}:F.ev (.tmp t)=F t:=rfl
theorem C2H{F:FEnv}{t:Nat}:F.ev (.func t)= .fn (.func t) [] []:=rfl
theorem B2q{C T:Heap→Prop}{G:Prop}(h:(∀H,C H→T H)→G)(t: ∀H,C H→T H):G:=h t
theorem B8U{H:Heap}{ks:List Fm}{i:Nat}(o:i<ks.length){rows:List (List D)}{R:List Nat}(h:Tr.trK H (ks.drop i) rows R): ∃r j b m,rows=r::j∧R=b++m∧Tr H ks[i] r b∧Tr.trK H (ks.drop (i+1)) j m:=by
 rw[D1m o,Tr.trK]at h;exact h
end Go.Fo
namespace Go.Proofs.YtibphjonmikciaaGreatDoor
open Go Go.Av Go.Lexs Go.Lin Go.Fo
attribute [local irreducible] ACalls S9
set_option maxHeartbeats 8000000 in
theorem B32(f:Fm): ∀(fa:FmFit f) {Q:D→Heap→Prop} (d:List D) (B:List Nat) (H:Heap) (ht:Tr H f d B) (h: ∀H',(∀b,b∉B→H' b=H b)→Q (.tuple []) H'),D7 42 [.agg d] H Q:=by
 induction f using O1 with
 |h o n l s ks ih=>
 intro fa Q d B H ht h;have c8:=fa.lin.len;have c9:=fa.kl;simp only[Fm.l,Fm.ks]at c8 c9;have d0:=ht.nodup;have d2:=ht.held;have b4:=ht.row;rw[Tr]at ht;obtain⟨td,kd,tb,kb,rows,bs,rfl,h2,h3,h4,rfl,-⟩:=ht;obtain⟨g0,g2,b6,o1,o2⟩:=b4;simp only[List.cons.injEq]at b6;obtain⟨-,-,d3,-,-,-,d4,-⟩:=b6;subst d3;subst d4;have d5:=A8q h4;obtain⟨g3,d6,d7⟩:=List.nodup_append.1 d0;obtain⟨g4,d8,e0⟩:=List.nodup_append.1 d6;refine A9 [(6,.wk)] A6 Tryz.func42 rfl ?_;simp only[go_sem,seval,Tryz.results42];have m1:=Q9 o1;have m2:=Q9 o2;have i1:(IntKind.i64.wrap 1:Int)=1:=by decide
 simp only[go_sem,seval,m1,m2];intro x g1;obtain⟨Bs,X⟩: ∃Bs,Bs=H.set x (.box [.int .i64 o,.int .i64 n,td,.int .i64 l.k,.bool l.e,.str s,kd]):=⟨_,rfl⟩
 have c1:Bs x=some (.box [.int .i64 o,.int .i64 n,td,.int .i64 l.k,.bool l.e,.str s,kd]):=by rw[X];exact A3 _ _
 have J: ∀b∈tb++(kb++bs),b≠x:=fun b hb e=>by rw[e]at hb;exact d2 x hb g1
 have Y: ∀b,b≠x→Bs b=H b:=fun b hb=>by rw[X];exact A2 _ hb
 rw[←X];apply B2q (C:=fun G=>∀b,b∉tb→G b=Bs b)
 ·intro hJ;have e4:=h2;rcases e4 with⟨q1,q2,z|z⟩|⟨v,z,hv,q4⟩
  ·repeat' (first|with_reducible apply D1H|simp only[go_sem,seval,c1,z]|simp(disch:=omega) only[A4,B4]|intro u|omega)
   refine C8 [1,7] (fun(k:Nat)=>[(8,.int .i64 k)]) (fun(k:Nat)=>Bs) (fun(k:Nat)=>k=0) (fun(k:Nat)=>0) (0) (rfl) (by(try simp only[go_sem,seval])<;>(try simp(disch:=omega) [A4])<;>(try omega)) (by first|exact D2i _|exact A0 (by assumption)|exact B9 (by assumption)|simp only[Heap.Le,Heap.set,Heap.del]at* <;>grind) ?_;rintro Ec rfl k A;repeat' (first|with_reducible apply D1H|simp only[go_sem,seval,A]|simp(disch:=omega) only[A4,B4]|intro u|omega)
   exact V8 [(1,.box x 0)] Bs (by(try simp only[go_sem,seval])<;>(try simp(disch:=omega) [A4])<;>(try omega)) (D2i _) (hJ Bs fun _ _=>rfl)
  ·repeat' (first|with_reducible apply D1H|simp only[go_sem,seval,c1,z]|simp(disch:=omega) only[A4,B4]|intro u|omega)
   refine C8 [1,7] (fun(k:Nat)=>[(8,.int .i64 k)]) (fun(k:Nat)=>Bs) (fun(k:Nat)=>k=0) (fun(k:Nat)=>0) (0) (rfl) (by(try simp only[go_sem,seval])<;>(try simp(disch:=omega) [A4])<;>(try omega)) (by first|exact D2i _|exact A0 (by assumption)|exact B9 (by assumption)|simp only[Heap.Le,Heap.set,Heap.del]at* <;>grind) ?_;rintro Ec rfl k A;repeat' (first|with_reducible apply D1H|simp only[go_sem,seval,A]|simp(disch:=omega) only[A4,B4]|intro u|omega)
   exact V8 [(1,.box x 0)] Bs (by(try simp only[go_sem,seval])<;>(try simp(disch:=omega) [A4])<;>(try omega)) (D2i _) (hJ Bs fun _ _=>rfl)
  ·have a0:v≠x:=J v (by rw[q4];simp);have a6:Bs v=some (.vec 2 (Rw J7 l.t)):=by rw[Y v a0];exact hv
   repeat' (first|with_reducible apply D1H|simp only[go_sem,seval,c1,z]|simp(disch:=omega) only[A4,B4]|intro u|omega)
   refine C8 [1,7] (fun(p:Nat×List (List D)×Heap)=>[(8,.int .i64 p.1)]) (fun(p:Nat×List (List D)×Heap)=>p.2.2) (fun(p:Nat×List (List D)×Heap)=>p.1≤l.t.length∧p.2.1.length=l.t.length∧p.2.2 v=some (.vec 2 p.2.1)∧∀b,b≠v→p.2.2 b=Bs b) (fun(p:Nat×List (List D)×Heap)=>l.t.length-p.1) ((0,Rw J7 l.t,Bs)) (⟨D1c _,by rw[D6],a6,fun _ _=>rfl⟩) (by(try simp only[go_sem,seval])<;>(try simp(disch:=omega) [A4])<;>(try omega)) (by first|exact D2i _|exact A0 (by assumption)|exact B9 (by assumption)|simp only[Heap.Le,Heap.set,Heap.del]at* <;>grind) ?_;rintro Ec rfl ⟨i,es,Hp⟩ ⟨hi,M,O,y⟩;simp only at hi M O y;have T:Hp x=_:=(y x a0.symm).trans c1;by_cases e6:i<l.t.length
   ·have I:decide ((i:Int)<l.t.length)=true:=D1J (by omega);have U:(i:Int)<l.t.length:=by omega
    repeat' (first|with_reducible apply D1H|simp only[go_sem,seval,I,U,T,z,O]|simp(disch:=omega) only[A4,B4]|intro u|omega)
    exact C4 (i+1,_,Hp.set v _) ⟨by simp only[];omega,by simp only[D2E];exact M,A3 _ _,fun b hb=>by simp only[];rw[A2 _ hb];exact y b hb⟩ (by simp only[];omega) (by(try simp only[go_sem,seval])<;>(try simp(disch:=omega) [A4])<;>(try omega)) (D2i _)
   ·have I:decide ((i:Int)<l.t.length)=false:=D1K (by omega);repeat' (first|with_reducible apply D1H|simp only[go_sem,seval,I]|simp(disch:=omega) only[A4,B4]|intro u|omega)
    exact V8 [(1,.box x 0)] Hp (by(try simp only[go_sem,seval])<;>(try simp(disch:=omega) [A4])<;>(try omega)) (D2i _) (hJ Hp fun b hb=>y b (fun e=>hb (by rw[e,q4];simp)))
 intro G hG
 --the parts
 have cg:G x=some (.box [.int .i64 o,.int .i64 n,td,.int .i64 l.k,.bool l.e,.str s,kd]):=by rw[hG x (fun m=>J x (List.mem_append_left _ m) rfl)];exact c1
 have b7: ∀b∈kb++bs,G b=H b:=fun b hb=>by
  rw[hG b (fun m=>d7 b m b hb rfl),Y b (J b (List.mem_append_right _ hb))]
 have e7: ∀b,b∉tb++(kb++bs)→b≠x→G b=H b:=fun b h1 h2=>by rw[hG b (fun m=>h1 (List.mem_append_left _ m)),Y b h2]
 have fin: ∀K:Heap,(∀b,b∉kb++bs→K b=G b)→Fin Q (.tuple []) K:=fun K hK=>by
  refine D2j (H':=fun b=>if b∈tb++(kb++bs)then K b else H b) (fun q p hq=>?_) (h _ fun b hb=>if_neg hb);have hq:(if q∈tb++(kb++bs)then K q else H q)=some p:=hq;by_cases hm:q∈tb++(kb++bs)
  ·rwa [if_pos hm]at hq
  ·rw[if_neg hm]at hq;have e8:q≠x:=fun e=>by rw[e,g1]at hq;cases hq
   rw[hK q (fun m=>hm (List.mem_append_right _ m)),e7 q hm e8];exact hq
 have hK:=h3;rcases hK with⟨q1,q2,z⟩|⟨v,z,hv,q4⟩
 ·have g5:ks= []:=D1f (by rw[←d5,q1];rfl);rcases z with z|z
  ·repeat' (first|with_reducible apply D1H|simp only[go_sem,seval,cg,z]|simp(disch:=omega) only[A4,B4]|intro u|omega)
   refine C8 [1,20] (fun(k:Nat)=>[(21,.int .i64 k)]) (fun(k:Nat)=>G) (fun(k:Nat)=>k=0) (fun(k:Nat)=>0) (0) (rfl) (by(try simp only[go_sem,seval])<;>(try simp(disch:=omega) [A4])<;>(try omega)) (by first|exact D2i _|exact A0 (by assumption)|exact B9 (by assumption)|simp only[Heap.Le,Heap.set,Heap.del]at* <;>grind) ?_;rintro Ec rfl k A;repeat' (first|with_reducible apply D1H|simp only[go_sem,seval,A]|simp(disch:=omega) only[A4,B4]|intro u|omega)
   exact fin G fun _ _=>rfl
  ·repeat' (first|with_reducible apply D1H|simp only[go_sem,seval,cg,z]|simp(disch:=omega) only[A4,B4]|intro u|omega)
   refine C8 [1,20] (fun(k:Nat)=>[(21,.int .i64 k)]) (fun(k:Nat)=>G) (fun(k:Nat)=>k=0) (fun(k:Nat)=>0) (0) (rfl) (by(try simp only[go_sem,seval])<;>(try simp(disch:=omega) [A4])<;>(try omega)) (by first|exact D2i _|exact A0 (by assumption)|exact B9 (by assumption)|simp only[Heap.Le,Heap.set,Heap.del]at* <;>grind) ?_;rintro Ec rfl k A;repeat' (first|with_reducible apply D1H|simp only[go_sem,seval,A]|simp(disch:=omega) only[A4,B4]|intro u|omega)
   exact fin G fun _ _=>rfl
 ·have a0:v≠x:=J v (by rw[q4];simp);have b8:v∈kb++bs:=by rw[q4];simp
  have a6:G v=some (.vec 7 rows):=by rw[b7 v b8];exact hv
  have b9:v∉bs:=fun m=>e0 v (by rw[q4];simp) v m rfl;have e9:Tr.trK G ks rows bs:=A1y h4 fun b hb=>b7 b (List.mem_append_right _ hb);repeat' (first|with_reducible apply D1H|simp only[go_sem,seval,cg,z]|simp(disch:=omega) only[A4,B4]|intro u|omega)
  refine C8 [1,20] (fun(p:Nat×List (List D)×List Nat×Heap)=>[(21,.int .i64 p.1)]) (fun(p:Nat×List (List D)×List Nat×Heap)=>p.2.2.2) (fun(p:Nat×List (List D)×List Nat×Heap)=>p.1≤rows.length∧p.2.1.length=rows.length∧p.2.2.2 v=some (.vec 7 p.2.1)∧(∀b,b∉kb++bs→p.2.2.2 b=G b)∧(∀j,p.1≤j→p.2.1[j]? =rows[j]?)∧Tr.trK p.2.2.2 (ks.drop p.1) (rows.drop p.1) p.2.2.1∧(∀b∈p.2.2.1,b∈bs)∧p.2.2.1.Nodup) (fun(p:Nat×List (List D)×List Nat×Heap)=>rows.length-p.1) ((0,rows,bs,G)) (⟨D1c _,rfl,a6,fun _ _=>rfl,fun _ _=>rfl,e9,fun _ h=>h,d8⟩) (by(try simp only[go_sem,seval])<;>(try simp(disch:=omega) [A4])<;>(try omega)) (by first|exact D2i _|exact A0 (by assumption)|exact B9 (by assumption)|simp only[Heap.Le,Heap.set,Heap.del]at* <;>grind) ?_;rintro Ec rfl ⟨i,es,R,Hp⟩ ⟨hi,M,O,y,a9,c0,b0,c4⟩;simp only at hi M O y a9 c0 b0 c4;have T:Hp x=_:=(y x (fun m=>J x (List.mem_append_right _ m) rfl)).trans cg;by_cases e6:i<rows.length
  ·have I:decide ((i:Int)<rows.length)=true:=D1J (by omega);have U:(i:Int)<rows.length:=by omega
   obtain⟨r,rs,B1,B2,c5,rfl,c6,f0⟩:=B8U (by omega:i<ks.length) c0;have f4:rows[i]? =some r:=by
    have:=congrArg (fun l=>l[0]?) c5;simpa using this
   have b2:es[i]? =some r:=by rw[a9 i (D1b _)];exact f4
   have f7:rs=rows.drop (i+1):=by
    have:=congrArg List.tail c5;simpa using this.symm
   obtain⟨g6,g7,hd,p1,p2⟩:=c6.row;have W:es.getD i []=r:=by rw[List.getD_eq_getElem?_getD,b2];rfl
   have hm:=D1V (by omega:i<ks.length);obtain⟨g8,f8,f9⟩:=List.nodup_append.1 c4;have b3: ∀b∈B1,b∈bs:=fun b hb=>b0 b (List.mem_append_left _ hb);have c7: ∀b∈B2,b∈bs:=fun b hb=>b0 b (List.mem_append_right _ hb);have sc: ∀{Q:D→Heap→Prop},(∀H',(∀b,b∉B1→H' b=Hp b)→Q (.tuple []) H')→D7 42 [.agg r] Hp Q:=fun hq=>ih ks[i] hm (fa.kid hm) r B1 Hp c6 hq;rw[hd]at b2 W sc;repeat' (first|with_reducible apply D1H|simp only[go_sem,seval,I,U,T,z,O,b2]|simp(disch:=omega) only[A4,B4]|intro u|omega)
   refine sc fun H2 V=>?_;have c2:H2 x=_:=(V x (fun m=>J x (List.mem_append_right _ (List.mem_append_right _ (b3 x m))) rfl)).trans T;have v2:H2 v=_:=(V v (fun m=>b9 (b3 v m))).trans O;have g9:i<es.length:=by omega
   repeat' (first|with_reducible apply D1H|simp only[go_sem,seval,c2,z,v2,M,U,W]|simp(disch:=omega) only[A4,B4]|intro u|omega)
   refine C4 (i+1,es.set i _,B2,H2.set v _) ⟨by simp only[];omega,by simp only[D2E];exact M,A3 _ _,fun b hb=>?_,fun j hj=>?_,?_,c7,f8⟩ (by simp only[];omega) (by(try simp only[go_sem,seval])<;>(try simp(disch:=omega) [A4])<;>(try omega)) (D2i _)
   ·have:b≠v:=fun e=>hb (by rw[e];exact b8);simp only[];rw[A2 _ this,V b (fun m=>hb (List.mem_append_right _ (b3 b m)))];exact y b hb
   ·simp only[]at hj⊢;rw[List.getElem?_set_ne (by omega)];exact a9 j (by omega)
   ·simp only[];rw[←f7];exact A1y f0 fun b hb=>by
     rw[A2 _ (fun e=>b9 (by rw[←e];exact c7 b hb)),V b (fun m=>f9 b m b hb rfl)]
  ·have I:decide ((i:Int)<rows.length)=false:=D1K (by omega);repeat' (first|with_reducible apply D1H|simp only[go_sem,seval,I]|simp(disch:=omega) only[A4,B4]|intro u|omega)
   exact fin Hp y
end Go.Proofs.YtibphjonmikciaaGreatDoor
namespace Go.Fo
open Go Go.Av Go.Lexs Go.Lin
theorem C0x{f:Fm}(h:FmFit f):FmFit (notF f).1:=by
 unfold notF;have z:FmFit zeroF:=.mk _ _ _ _ _ (by simp[U3]) (by simp[U3]) u0 (by decide) (by simp) (by simp);split
 ·rename_i hv;split
  ·exact(A3v f true (M0 hv) h).1
  ·exact z
 ·exact z
end Go.Fo
namespace Go.Proofs.YtibphjonmikciaaGreatDoor
open Go Go.Av Go.Lexs Go.Lin Go.Fo
attribute [local irreducible] ACalls S9
end Go.Proofs.YtibphjonmikciaaGreatDoor
namespace Go.Fo
open Go Go.Av Go.Lexs Go.Lin
theorem vw1{H:Heap}{d d':D}(h:View H d d'): ∀(i:Nat) x x',[d][i]? =some x→[d'][i]? =some x'→View H x x':=fun i x x' h1 j=>by
 match i with
 |0=>cases h1;cases j;exact h
 |i+1=>cases h1
theorem vw2{H:Heap}{d d' e e':D}(h:View H d d')(g:View H e e'): ∀(i:Nat) x x',[d,e][i]? =some x→[d',e'][i]? =some x'→View H x x':=fun i x x' h1 j=>by
 match i with
 |0=>cases h1;cases j;exact h
 |1=>cases h1;cases j;exact g
 |i+2=>cases h1
theorem A9T{d:List D}{n:Int}(h: ∀x∈d,Loose x):Loose (.tuple [.agg d,.int .i64 n]):=.tuple _ fun x hx=>by
 simp only[D1j,D1k,or_false]at hx;rcases hx with rfl|rfl
 ·exact .agg _ h
 ·exact .flat _ rfl
theorem B8V{H:Heap}{f g:Fm}{d e:List D}{B C:List Nat}{v n:Nat}(hv:H v=some (.vec 7 [d,e]))(hn:n=2)(m:Tr H f d B)(o:Tr H g e C):View H (.vec v 7 0 n) (.sl 7 (Rw C1 [f,g])):=by
 refine .vec v 7 n [d,e] (Rw C1 [f,g]) hv hn rfl (fun i a a' h1 h=>?_) fun i a a' j x x' h1 h p q=>?_
 ·match i with
  |0=>cases h1;cases h;rw[m.len,I6];rfl
  |1=>cases h1;cases h;rw[o.len,I6];rfl
  |i+2=>cases h1
 ·match i with
  |0=>cases h1;cases h;exact m.view j x x' p q
  |1=>cases h1;cases h;exact o.view j x x' p q
  |i+2=>cases h1
end Go.Fo
namespace Go.Proofs.YtibphjonmikciaaGreatDoor
open Go Go.Av Go.Lexs Go.Lin Go.Fo
attribute [local irreducible] ACalls S9
section
variable {Q:D→Heap→Prop} {f g:Fm} {K:Heap} {d e:List D} {B C:List Nat}
theorem C7m(i: ∀x∈[f,g],FmFit x)(j: ∀x∈[f,g],VOk x)(hw: [f,g].all D8=true→J9.wtL [f,g]≤900000){v n:Nat}(hv:K v=some (.vec 7 [d,e]))(hn:n=2)(m:Tr K f d B)(o:Tr K g e C)(h:Q (.tuple [.agg (C1 (bothF 5 [f,g]).1),.int .i64 (bothF 5 [f,g]).2]) K):D7 24 [.vec v 7 0 n] K Q:=
 ACalls.fin (A8s (args':=[.sl 7 (Rw C1 [f,g])]) _ _ (fun _ h=>A9T h) rfl (vw1 (B8V hv hn m o)) (fun q p=>C7l [f,g] i (by simp) j hw _ p) (A65 h))
theorem C98(i: ∀x∈[f,g],FmFit x)(j: ∀x∈[f,g],VOk x)(hw: [f,g].all D8=true→J9.wtL [f,g]≤900000){v n:Nat}(hv:K v=some (.vec 7 [d,e]))(hn:n=2)(m:Tr K f d B)(o:Tr K g e C)(h:Q (.tuple [.agg (C1 (bothF 6 [f,g]).1),.int .i64 (bothF 6 [f,g]).2]) K):D7 26 [.vec v 7 0 n] K Q:=
 ACalls.fin (A8s (args':=[.sl 7 (Rw C1 [f,g])]) _ _ (fun _ h=>A9T h) rfl (vw1 (B8V hv hn m o)) (fun q p=>C97 [f,g] i (by simp) j hw _ p) (A65 h))
theorem C7n(i:FmFit f)(j:VOk f)(m:Tr K f d B)(h:Q (.tuple [.agg (C1 (notF f).1),.int .i64 (notF f).2]) K):D7 16 [.agg d] K Q:=
 ACalls.fin (A8s (args':=[.agg (C1 f)]) _ _ (fun _ h=>A9T h) rfl (vw1 m.agg) (fun p o=>C7k f i j _ o) (A65 h))
theorem C4l(i:Tabs K)(j:FmFit f)(m:VOk f)(o:Tr K f d B)(h: ∀s n,Q (.tuple [.str s,.int .i64 n]) K):D7 27 [.agg d] K Q:=
 X5 (args':=[.agg (C1 f)]) rfl (vw1 o.agg) (A5k f j m _ (i.hro fun k cs e=>A6G e) ⟨rfl,h _ _⟩)
theorem B33(i:FmFit f)(j:Tr K f d B)(h:Q (.bool true) K):D7 21 [.agg d,.agg (C1 f)] K Q:=
 X5 (args':=[.agg (C1 f),.agg (C1 f)]) rfl (vw2 j.agg (.same _)) (A2C f i _ ⟨rfl,h⟩)
end
theorem C0y{Q}{b n:Nat}{H0:Heap}(i:H0 b=none)(f g:Fm)(j:FmFit f)(m:FmFit g)(hn:n=2)(h:Q (.bool (decide (0≤B1E [f,g] 600))) H0):D7 12 [.vec b 7 0 n] (H0.set b (.vec 7 [C1 f,C1 g])) Q:=
 R6 (es:=Rw C1 [f,g]) i hn (C4j [f,g] (by simp) (fun x hx=>by
  simp only[D1j,D1k,or_false]at hx;rcases hx with rfl|rfl
  ·exact j
  ·exact m) H0 h)
set_option maxHeartbeats 8000000 in
theorem B5J{Q}(f g:Fm)(fa:FmFit f)(ga:FmFit g)(vf:VOk f)(vg:VOk g)(hw: [f,g].all D8=true→J9.wtL [f,g]≤900000)(H:Heap)(hT:Tabs H)(h:Q (.bool true) H):D7 11 [.agg (C1 f),.agg (C1 g)] H Q:=by
 refine A9 [(3,.any),(10,.par)] A6 Tryz.func11 rfl ?_;simp only[go_sem,seval,Tryz.results11];intro b2 g2 b3 g3;simp only[A5]at g3;have I:((H.set b2 (.box (C1 f))).set b3 (.box (C1 g))) b2=some (.box (C1 f)):=by rw[A2 _ g3.1.symm,A3]
 have J:((H.set b2 (.box (C1 f))).set b3 (.box (C1 g))) b3=some (.box (C1 g)):=A3 _ _;have Y:H.Le ((H.set b2 (.box (C1 f))).set b3 (.box (C1 g))):=(A0 g2).trans (A0 (by simp only[A5];exact g3));generalize (H.set b2 (.box (C1 f))).set b3 (.box (C1 g))=H0 at I J Y⊢;have b8:=hT.le Y;repeat' (first|with_reducible apply D1H|simp only[go_sem,seval,I,J]|simp(disch:=omega) only[B4]|simp(disch:=first|omega|grind) only[A8]|(intro p;try simp only[A5]at p)|omega)
 refine C0y (by assumption) f g fa ga rfl ?_;by_cases hc:0≤B1E [f,g] 600
 rotate_left
 ·rw[D1K hc];repeat' (first|with_reducible apply D1H|simp only[go_sem,seval]|simp(disch:=omega) only[B4]|simp(disch:=first|omega|grind) only[A8]|(intro p;try simp only[A5]at p)|with_reducible refine B1W _ b8 ?_|omega)
  exact D2j Y h
 rw[D1J hc];repeat' (first|with_reducible apply D1H|simp only[go_sem,seval,I,J]|simp(disch:=omega) only[B4]|simp(disch:=first|omega|grind) only[A8]|(intro p;try simp only[A5]at p)|omega)
 have fl: ∀x∈[f,g],FmFit x:=fun x hx=>by
  simp only[D1j,D1k,or_false]at hx;rcases hx with rfl|rfl
  ·exact fa
  ·exact ga
 have vl: ∀x∈[f,g],VOk x:=fun x hx=>by
  simp only[D1j,D1k,or_false]at hx;rcases hx with rfl|rfl
  ·exact vf
  ·exact vg
 have zz:FmFit zeroF:=.mk _ _ _ _ _ (by simp[U3]) (by simp[U3]) u0 (by decide) (by simp) (by simp);refine C22 (B4T [22,23,24,25,5,6] (fun L=>OwInv H0 f g [.int .i64 0,.int .i64 0,.nilsl,.int .i64 0,.bool false,.str ⟨#[]⟩,.nilsl] (lst L)) (by kernel_rfl) (by kernel_rfl) (.inl ⟨A9S _ _,A9S _ _,B5R (A9S _)⟩) ?_ ?_)
 ·intro L F K i o hsz hI hF ho hu hw;have hs:L.size=8:=hsz;have hp: ∀j,j<8→lst (L.setIfInBounds j true)=pt (lst L) j:=fun j hj=>C0w (by omega);replace hu:lst L i=false:=hu;have f2:F 2= .box b2 0:=(hF 2 (by decide)).trans (by(try simp only[go_sem,seval])<;>(try simp(disch:=omega) [A4])<;>(try omega));have f3:F 3= .box b3 0:=(hF 3 (by decide)).trans (by(try simp only[go_sem,seval])<;>(try simp(disch:=omega) [A4])<;>(try omega));rw[List.getElem?_toArray]at ho
  match i,ho with
  |0,ho=>
   simp only[List.getElem?_cons_zero,D1t]at ho;subst ho;obtain⟨n6,n7,P⟩:=hI.pre (by decide) hu;have k2:=P.le _ _ I;refine⟨rfl,?_⟩;simp only[go_sem,seval,A8K,f2,k2];rw[hp 0 (by decide)];exact .inl ⟨n6,n7,P.op0⟩
  |1,ho=>
   simp only[List.getElem?_cons_zero,D1n,D1t]at ho;subst ho;obtain⟨n6,n7,P⟩:=hI.pre (by decide) hu;have l0:=hw ⟨0,.data⟩ (by simp) rfl;have d5:=P.l0 l0;have n3:lst L 3=false:=by
    cases g3:lst L 3 with
    |false=>rfl
    |true=>have:=(P.c3 g3).2.1;rw[hu]at this;cases this
   refine⟨rfl,?_⟩;simp only[go_sem,seval,A8K,C2H,d5];refine C2G f fa _ fun d B H1 ht hB hH=>?_;rw[hp 1 (by decide)];exact .inl ⟨n6,n7,P.op1 l0 n3 ht hB hH⟩
  |2,ho=>
   simp only[List.getElem?_cons_zero,D1n,D1t]at ho;subst ho;obtain⟨n6,n7,P⟩:=hI.pre (by decide) hu;have k3:=P.le _ _ J;refine⟨rfl,?_⟩;simp only[go_sem,seval,A8K,f3,k3];rw[hp 2 (by decide)];exact .inl ⟨n6,n7,P.op2⟩
  |3,ho=>
   simp only[List.getElem?_cons_zero,D1n,D1t]at ho;subst ho;obtain⟨n6,n7,P⟩:=hI.pre (by decide) hu;have l2:=hw ⟨2,.data⟩ (by simp) rfl;have l1:=hw ⟨1,.chain⟩ (by simp) rfl;have d6:=P.l2 l2;refine⟨rfl,?_⟩;simp only[go_sem,seval,A8K,C2H,d6];refine C2G g ga _ fun d B H1 ht hB hH=>?_;rw[hp 3 (by decide)];exact .inl ⟨n6,n7,P.op3 l2 l1 ht hB hH⟩
  |4,ho=>
   simp only[List.getElem?_cons_zero,D1n,D1t]at ho;subst ho;obtain⟨n6,n7,P⟩:=hI.pre (by decide) hu;refine⟨rfl,?_⟩;simp only[go_sem,seval];intro b hb;rw[hp 4 (by decide)];exact .inl ⟨n6,n7,P.op4 hb⟩
  |5,ho=>
   simp only[List.getElem?_cons_zero,D1n,D1t]at ho;subst ho;obtain⟨n6,n7,P⟩:=hI.pre (by decide) hu;refine⟨rfl,?_⟩;simp only[go_sem,seval];intro b hb;rw[hp 5 (by decide)];exact .inl ⟨n6,n7,P.op5 hb⟩
  |6,ho=>
   simp only[List.getElem?_cons_zero,D1n,D1t]at ho;subst ho;obtain⟨n6,n7,P⟩:=hI.pre (by decide) hu;obtain⟨z,d,B,e,C,b,c,S⟩:=P.all (hw ⟨3,.chain⟩ (by simp) rfl) (hw ⟨4,.data⟩ (by simp) rfl) (hw ⟨5,.phase⟩ (by simp) rfl);obtain⟨td,kd,hd,o1,o2⟩:=S.tf.row;subst hd;have f5:=S.f5;have f23:=S.f23;have hb:=S.hb;refine⟨rfl,?_⟩;simp only[go_sem,seval,A8K,f5,f23,hb,Q9 o1,Q9 o2];rw[hp 6 (by decide)];exact .inr ⟨fun j hj=>(show (if 6=j then true else lst L j)=true from(by split<;>first|rfl|exact z j (by omega))),_,B,e,C,b,c,_,S.st6 _,fun h=>(by rw[show pt (lst L) 6 7=lst L 7 from rfl,n7]at h;cases h),fun _=>rfl⟩
  |7,ho=>
   simp only[List.getElem?_cons_zero,D1n,D1t]at ho;subst ho;have l6:lst L 6=true:=hw ⟨6,.chain⟩ (by simp) rfl;rcases hI with hI|⟨z,d,B,e,C,b,c,y,S,_,hy⟩
   ·rw[hI.1]at l6;cases l6
   have hy:=hy hu;subst hy;obtain⟨td,kd,hd,o1,o2⟩:=S.tg.row;subst hd;have f6:=S.f6;have f25:=S.f25;have hc:=S.hc;refine⟨rfl,?_⟩;simp only[go_sem,seval,A8K,f6,f25,hc,Q9 o1,Q9 o2];rw[hp 7 (by decide)];exact .inr ⟨fun j hj=>(show (if 7=j then true else lst L j)=true from(by split<;>first|rfl|exact z j hj)),d,B,_,C,b,c,_,S.st7 _,fun _=>rfl,fun h=>(by cases h)⟩
  |i+8,ho=>simp at ho
 intro L F H1 z hI;rcases hI with hI|⟨_,d,B,e,C,b5,b6,y,S,hy,_⟩
 ·have:lst L 6=true:=z 6 (by decide);rw[hI.1]at this;cases this
 have hy:=hy (z 7 (by decide));subst hy;have f5:=S.f5;have f6:=S.f6;have T:OwT H0 f g d B y C b5 b6 H1:=⟨S.le,S.tf,S.tg,S.hb,S.hc⟩
 have nf:=S.nf;have ng:=S.ng;have dis:=S.dis;clear S z;obtain⟨c0,c2,c4,o1,o2⟩:=T.tf.row;obtain⟨c5,c6,c7,o3,o4⟩:=T.tg.row;have m1:=Q9 o1;have m2:=Q9 o2;have m3:=Q9 o3;have m4:=Q9 o4;have ac:=fun {Q:D→Heap→Prop} {K:Heap} {d e:List D} {B C:List Nat} {v n:Nat}=>C7m (Q:=Q) (K:=K) (d:=d) (e:=e) (B:=B) (C:=C) (v:=v) (n:=n) fl vl hw;have oc:=fun {Q:D→Heap→Prop} {K:Heap} {d e:List D} {B C:List Nat} {v n:Nat}=>C98 (Q:=Q) (K:=K) (d:=d) (e:=e) (B:=B) (C:=C) (v:=v) (n:=n) fl vl hw;have nc:=fun {Q:D→Heap→Prop} {K:Heap} {d:List D} {B:List Nat}=>C7n (Q:=Q) (K:=K) (d:=d) (B:=B) fa vf;have bf: ∀o:Int,o=5∨o=6→FmFit (bothF o [f,g]).1:=fun o ho=>by
  unfold bothF;split
  ·split
   ·exact zz
   ·split
    ·exact P7 (by rcases ho with rfl|rfl<;>simp[U3]) (by simp) fl
    ·exact zz
  ·exact zz
 have fA:=bf 5 (.inl rfl);have fO:=bf 6 (.inr rfl);have fN:=C0x fa;clear bf zz;generalize bothF 5 [f,g]=rA at ac fA;generalize bothF 6 [f,g]=rO at oc fO;generalize notF f=rN at nc fN;obtain⟨A,eA⟩:=rA;obtain⟨O,eO⟩:=rO;obtain⟨N,eN⟩:=rN;simp only at ac oc nc fA fO fN;have c8:=T.hb;have c9:=T.hc;rw[c4]at c8;rw[c7]at c9;repeat' (first|with_reducible apply D1H|simp only[go_sem,seval,B5I,B8T,f5,f6,c8,c9,m1,m2,m3,m4]|simp(disch:=omega) only[B4]|simp(disch:=first|omega|grind) only[A8]|(intro p;try simp only[A5]at p)|omega)
 subst c4;subst c7;rename_i v1;have w:=p;clear p;have le:=A0 (o:=.vec 7 [[.int .i64 f.op,.int .i64 f.n,c0,.int .i64 f.l.k,.bool f.l.e,.str f.s,c2],[.int .i64 g.op,.int .i64 g.n,c5,.int .i64 g.l.k,.bool g.l.e,.str g.s,c6]]) w;have T1:=T.to le;refine ac (A3 _ _) rfl T1.tf T1.tg ?_;generalize H1.set _ _=K1 at T1⊢;clear T w le;repeat' (first|with_reducible apply D1H|simp only[go_sem,seval]|simp(disch:=omega) only[B4]|simp(disch:=first|omega|grind) only[A8]|(intro p;try simp only[A5]at p)|omega)
 rename_i b7;have w:=p;clear p;have le:=A0 (o:=.box (C1 A)) w;have T2:=T1.to le;have q:(K1.set b7 (.box (C1 A))) b7=some (.box (C1 A)):=A3 _ _;generalize K1.set _ _=K2 at T2 q⊢;clear T1 w le;have tb:=T2.hb;have U:=T2.hc;have V:=T2.le _ _ I;have W:=T2.le _ _ J;repeat' (first|with_reducible apply D1H|simp only[go_sem,seval,tb,U,V,W,m1,m2,m3,m4,q]|simp(disch:=omega) only[B4]|simp(disch:=first|omega|grind) only[A8]|(intro p;try simp only[A5]at p)|omega)
 clear tb U V W;rename_i v2;have w:=p;clear p;have le:=A0 (o:=.vec 7 [[.int .i64 f.op,.int .i64 f.n,c0,.int .i64 f.l.k,.bool f.l.e,.str f.s,c2],[.int .i64 g.op,.int .i64 g.n,c5,.int .i64 g.l.k,.bool g.l.e,.str g.s,c6]]) w;have T3:=T2.to le;replace q:=le _ _ q;refine oc (A3 _ _) rfl T3.tf T3.tg ?_;generalize K2.set _ _=K3 at T3 q⊢;clear T2 w le;repeat' (first|with_reducible apply D1H|simp only[go_sem,seval]|simp(disch:=omega) only[B4]|simp(disch:=first|omega|grind) only[A8]|(intro p;try simp only[A5]at p)|omega)
 rename_i b9;have w:=p;clear p;have le:=A0 (o:=.box (C1 O)) w;have T4:=T3.to le;replace q:=le _ _ q;have u:(K3.set b9 (.box (C1 O))) b9=some (.box (C1 O)):=A3 _ _;generalize K3.set _ _=K4 at T4 q u⊢;clear T3 w le;have tb:=T4.hb;have U:=T4.hc;have V:=T4.le _ _ I;have W:=T4.le _ _ J;repeat' (first|with_reducible apply D1H|simp only[go_sem,seval,tb,U,V,W,m1,m2,m3,m4,q,u]|simp(disch:=omega) only[B4]|simp(disch:=first|omega|grind) only[A8]|(intro p;try simp only[A5]at p)|omega)
 clear tb U V W;refine nc T4.tf ?_;repeat' (first|with_reducible apply D1H|simp only[go_sem,seval]|simp(disch:=omega) only[B4]|simp(disch:=first|omega|grind) only[A8]|(intro p;try simp only[A5]at p)|omega)
 rename_i X;have w:=p;clear p;have le:=A0 (o:=.box (C1 N)) w;have G:=T4.to le;replace q:=le _ _ q;replace u:=le _ _ u;have r:(K4.set X (.box (C1 N))) X=some (.box (C1 N)):=A3 _ _;generalize K4.set _ _=K5 at G q u r⊢;clear T4 w le;have tb:=G.hb;have U:=G.hc;have V:=G.le _ _ I;have W:=G.le _ _ J;repeat' (first|with_reducible apply D1H|simp only[go_sem,seval,tb,U,V,W,m1,m2,m3,m4,q,u,r]|simp(disch:=omega) only[B4]|simp(disch:=first|omega|grind) only[A8]|(intro p;try simp only[A5]at p)|omega)
 clear tb U V W;refine C4l (b8.le G.le) fa vf G.tf fun _ _=>?_;have tb:=G.hb;have U:=G.hc;have V:=G.le _ _ I;have W:=G.le _ _ J;repeat' (first|with_reducible apply D1H|simp only[go_sem,seval,tb,U,V,W,m1,m2,m3,m4,q,u,r]|simp(disch:=omega) only[B4]|simp(disch:=first|omega|grind) only[A8]|(intro p;try simp only[A5]at p)|omega)
 clear tb U V W;refine B33 fa G.tf ?_;have tb:=G.hb;have U:=G.hc;have V:=G.le _ _ I;have W:=G.le _ _ J;repeat' (first|with_reducible apply D1H|simp only[go_sem,seval,tb,U,V,W,m1,m2,m3,m4,q,u,r]|simp(disch:=omega) only[B4]|simp(disch:=first|omega|grind) only[A8]|(intro p;try simp only[A5]at p)|omega)
 clear tb U V W;refine B33 ga G.tg ?_;have tb:=G.hb;have U:=G.hc;have V:=G.le _ _ I;have W:=G.le _ _ J;repeat' (first|with_reducible apply D1H|simp only[go_sem,seval,tb,U,V,W,m1,m2,m3,m4,q,u,r]|simp(disch:=omega) only[B4]|simp(disch:=first|omega|grind) only[A8]|(intro p;try simp only[A5]at p)|omega)
 clear tb U V W;have m7:b7∈[b7,b9,X]:=by simp
 have m9:b9∈[b7,b9,X]:=by simp
 have d0:X∈[b7,b9,X]:=by simp
 refine F9 (fun i'=>if i'=1 then .agg (C1 A)else if i'=3 then .agg (C1 O)else if i'=5 then .agg (C1 N)else .undef) [b7,b9,X] ?_;repeat' (first|with_reducible apply D1H|simp only[go_sem,seval,q,u,r,m7,m9,d0]|simp(disch:=omega) only[B4]|simp(disch:=first|omega|grind) only[A8]|(intro p;try simp only[A5]at p)|with_reducible refine R5 (fun H' Q hro hq=>B8N A fA H' hq) ?_|with_reducible refine R5 (fun H' Q hro hq=>B8N O fO H' hq) ?_|with_reducible refine R5 (fun H' Q hro hq=>B8N N fN H' hq) ?_|omega)
 rename_i b0 d2 b1 d7 b4;have d8:=p;clear p;obtain⟨p1,p2⟩:=d7;obtain⟨q1,q2,q3⟩:=d8;obtain⟨M,hM⟩: ∃M,M=(((((K5.set b0 (.box [.int .i64 0,.int .i64 0,.nilsl,.int .i64 0,.bool false,.str ⟨#[]⟩,.nilsl])).set b1 (.box [.int .i64 0,.int .i64 0,.nilsl,.int .i64 0,.bool false,.str ⟨#[]⟩,.nilsl])).set b4 (.box [.int .i64 0,.int .i64 0,.nilsl,.int .i64 0,.bool false,.str ⟨#[]⟩,.nilsl])).set b0 (.box (C1 A))).set b1 (.box (C1 O))).set b4 (.box (C1 N)):=⟨_,rfl⟩
 rw[←hM];have a0:M b0=some (.box (C1 A)):=by rw[hM,A2 _ q2.symm,A2 _ p1.symm,A3]
 have a6:M b1=some (.box (C1 O)):=by rw[hM,A2 _ q1.symm,A3]
 have a9:M b4=some (.box (C1 N)):=by rw[hM,A3]
 have le:K5.Le M:=fun k o hk=>by
  have n1:k≠b0:=fun e=>by rw[e,d2]at hk;cases hk
  have n2:k≠b1:=fun e=>by rw[e,p2]at hk;cases hk
  have n3:k≠b4:=fun e=>by rw[e,q3]at hk;cases hk
  rw[hM,A2 _ n3,A2 _ n2,A2 _ n1,A2 _ n3,A2 _ n2,A2 _ n1];exact hk
 have T6:=G.to le;replace q:=le _ _ q;replace u:=le _ _ u;replace r:=le _ _ r;clear hM le p1 p2 q1 q2 q3 d2 G m7 m9 d0;have tb:=T6.hb;repeat' (first|with_reducible apply D1H|simp only[go_sem,seval,tb,m1,m2]|simp(disch:=omega) only[B4]|simp(disch:=first|omega|grind) only[A8]|(intro p;try simp only[A5]at p)|omega)
 refine B32 f fa _ B _ T6.tf fun P hP=>?_;have tg:Tr P g _ C:=T6.tg.mono fun b hb=>hP b fun m=>dis b m hb;have U:=Z2 T6.hc T6.tf hP;have d3:=B8R T6.le nf hP;replace q:=Z2 q T6.tf hP;replace u:=Z2 u T6.tf hP;replace r:=Z2 r T6.tf hP;replace a0:=Z2 a0 T6.tf hP;replace a6:=Z2 a6 T6.tf hP;replace a9:=Z2 a9 T6.tf hP;clear T6 tb hP;repeat' (first|with_reducible apply D1H|simp only[go_sem,seval,U,m3,m4]|simp(disch:=omega) only[B4]|simp(disch:=first|omega|grind) only[A8]|(intro p;try simp only[A5]at p)|omega)
 refine B32 g ga _ C _ tg fun R hR=>?_;have d4:=B8R d3 ng hR;replace q:=Z2 q tg hR;replace u:=Z2 u tg hR;replace r:=Z2 r tg hR;replace a0:=Z2 a0 tg hR;replace a6:=Z2 a6 tg hR;replace a9:=Z2 a9 tg hR;clear tg U hR d3;have e0:=b8.le d4;have k1: ∀{Q:D→Heap→Prop} (H:Heap) (h:Q (.bool true) H),D7 21 [.agg (C1 A),.agg (C1 A)] H Q:=A2C A fA;have k2: ∀{Q:D→Heap→Prop} (H:Heap) (h:Q (.bool true) H),D7 21 [.agg (C1 O),.agg (C1 O)] H Q:=A2C O fO;have k3: ∀{Q:D→Heap→Prop} (H:Heap) (h:Q (.bool true) H),D7 21 [.agg (C1 N),.agg (C1 N)] H Q:=A2C N fN;repeat' (first|with_reducible apply D1H|simp only[go_sem,seval,q,u,r,a0,a6,a9]|simp(disch:=omega) only[B4]|simp(disch:=first|omega|grind) only[A8]|(intro p;try simp only[A5]at p)|with_reducible refine k1 _ ?_|with_reducible refine k2 _ ?_|with_reducible refine k3 _ ?_|with_reducible refine B1W _ e0 ?_|omega)
 exact D2j (Y.trans d4) h
end Go.Proofs.YtibphjonmikciaaGreatDoor
namespace Go.Av
open Go.RowKit Go.ChangeShapes Go.WideShapes
def B1X(P:Program):Nat→List Field→Option Nat
 |o,[]=>some o
 |o,f::r=>if f.offset=o then B1X P (o+P.cellsOf f.type) r else none
def A4q(P:Program)(l:List TypeId)(t:TypeId):Bool:=match P.underlying t with
 |some .bool|some (.int _)|some .string=>decide (P.cellsOf t=1)
 |some (.slice e)=>decide (P.cellsOf t=1)&&l.contains e&&decide (0<P.cellsOf e)&&decide (0<P.bytesOf e)
 |some (.struct fs)=>decide (B1X P 0 fs.toList=some (P.cellsOf t))&&fs.toList.all (fun f=>l.contains f.type)
 |_=>false
def plainB(P:Program)(l:List TypeId):Bool:=l.all (A4q P l)
inductive A2D(P:Program):TypeId→List D→Prop
 |bool {t:TypeId} (b:Bool) (h:P.underlying t=some .bool):A2D P t [.bool b]
 |int {t:TypeId} {k:IntKind} (n:Int) (h:P.underlying t=some (.int k)) (hw:(Lit.int k n).wf=true):A2D P t [.int k n]
 |str {t:TypeId} (s:ByteArray) (h:P.underlying t=some .string) (hs:s.size≤reachBytes):A2D P t [.str s]
 |sl {t e:TypeId} (es:List (List D)) (h:P.underlying t=some (.slice e)) (hl:es.length*P.bytesOf e≤reachBytes) (he: ∀x∈es,A2D P e x):A2D P t [.sl (P.cellsOf e) es]
 |struct {t:TypeId} {fs:Array Field} (ps:List (List D)) (h:P.underlying t=some (.struct fs)) (hl:ps.length=fs.size) (hp: ∀(i:Nat) (f:Field) (p:List D),fs[i]? =some f→ps[i]? =some p→A2D P f.type p):A2D P t ps.flatten
section
variable {H:Type} {enc:TypeId×Value→H} {P:Program}
def B8W(w:World)(Hp:Heap)(ds:List D)(cs:List Value):Prop:=∀(j:Nat) (d:D),ds[j]? =some d→d.one=true∧R w Hp d (cs.getD j Go.undef)
theorem A8L{w:World}{Hp:Heap}{cs:List Value}: ∀(fs:List Field) (o m:Nat) (ps:List (List D)),B1X P o fs=some m→m≤cs.length→ps.length=fs.length→
  (∀(i:Nat) (f:Field) (p:List D),fs[i]? =some f→ps[i]? =some p→p.length=P.cellsOf f.type∧B8W w Hp p ((cs.drop f.offset).take (P.cellsOf f.type)))→
  o≤m∧o+ps.flatten.length=m∧∀(j:Nat) (d:D),ps.flatten[j]? =some d→d.one=true∧R w Hp d (cs.getD (o+j) Go.undef)
 | [],o,m,ps,ht,_,hl,_=>by
  have:ps= []:=D1f (by simpa using hl);subst this;simp only[B1X,D1t]at ht;subst ht;exact⟨D1b _,by simp,fun j d hd=>by simp at hd⟩
 |f::r,o,m,ps,ht,hm,hl,hp=>by
  cases ps with
  |nil=>simp at hl
  |cons p ps=>
   unfold B1X at ht;split at ht
   ·rename_i ho;obtain⟨h,q⟩:=hp 0 f p rfl rfl;obtain⟨h1,M,x⟩:=A8L r (o+P.cellsOf f.type) m ps ht hm (by simpa using hl) (fun i y z A u=>hp (i+1) y z (by simpa using A) (by simpa using u));refine⟨by omega,by rw[List.flatten_cons,D1N,h];omega,fun j d hd=>?_⟩;rw[List.flatten_cons,List.getElem?_append]at hd;split at hd
    ·rename_i G;obtain⟨I,J⟩:=q j d hd;refine⟨I,?_⟩;have e:((cs.drop f.offset).take (P.cellsOf f.type)).getD j Go.undef=cs.getD (o+j) Go.undef:=by
      rw[List.getD_eq_getElem?_getD,List.getD_eq_getElem?_getD,List.getElem?_take_of_lt (by omega),List.getElem?_drop,ho]
     rw[←e];exact J
    ·rename_i G;have:=x (j-p.length) d hd;have e:o+P.cellsOf f.type+(j-p.length)=o+j:=by omega
     rw[e]at this;exact this
   ·cases ht
theorem A2E{e:TypeId}{n:Nat}: ∀{l:List (DataW H)},(DataW.weightsAll P e l).all (· ≤n)=true→∀d∈l,(d.weights P e).all (· ≤n)=true
 | [],_,d,hd=>by cases hd
 |x::l,h,d,hd=>by
  rw[DataW.weightsAll,D2L,D1U]at h;rcases D1j.1 hd with rfl|hd
  ·exact h.1
  ·exact A2E h.2 d hd
theorem X4{n:Nat}: ∀{j:List TypeId} {l:List (DataW H)},(DataW.weightsEach P j l).all (· ≤n)=true→∀(i:Nat) t d,j[i]? =some t→l[i]? =some d→(d.weights P t).all (· ≤n)=true
 | [],_,_,i,t,d,ht,_=>by simp at ht
 |_::_,[],_,i,t,d,_,hd=>by simp at hd
 |t0::j,m::l,h,i,t,d,ht,hd=>by
  rw[DataW.weightsEach,D2L,D1U]at h;cases i with
  |zero=>simp at ht hd;subst ht;subst hd;exact h.1
  |succ i=>exact X4 h.2 i t d (by simpa using ht) (by simpa using hd)
theorem B1Y{a:Addr}(hs:a.spot=none)(n:Nat):a.add n=⟨a.block,a.off+n,none⟩:=by
 obtain⟨b,o,s⟩:=a;simp only at hs;subst hs;unfold Addr.add;split
 ·rename_i h;subst h;rfl
 ·rfl
theorem B1Z{t:TypeId}{ds:List D}(i:P.underlying t=some .string)(h:A2D P t ds): ∃s,ds= [.str s]∧s.size≤reachBytes:=by
 cases h with
 |str s h hs=>exact⟨s,rfl,hs⟩
 |bool b h=>rw[i]at h;cases h
 |int n h=>rw[i]at h;cases h
 |sl es h=>rw[i]at h;cases h
 |struct ps h=>rw[i]at h;cases h
theorem B5K{t:TypeId}{ds:List D}(i:P.underlying t=some .bool)(h:A2D P t ds): ∃b,ds= [.bool b]:=by
 cases h with
 |bool b h=>exact⟨b,rfl⟩
 |str s h hs=>rw[i]at h;cases h
 |int n h=>rw[i]at h;cases h
 |sl es h=>rw[i]at h;cases h
 |struct ps h=>rw[i]at h;cases h
theorem A35{t:TypeId}{k:IntKind}{ds:List D}(i:P.underlying t=some (.int k))(h:A2D P t ds): ∃n,ds= [.int k n]∧(Lit.int k n).wf=true:=by
 cases h with
 |int n h hw=>rw[i]at h;cases h;exact⟨n,rfl,hw⟩
 |bool b h=>rw[i]at h;cases h
 |str s h hs=>rw[i]at h;cases h
 |sl es h=>rw[i]at h;cases h
 |struct ps h=>rw[i]at h;cases h
theorem C0z{t e:TypeId}{ds:List D}(i:P.underlying t=some (.slice e))(h:A2D P t ds): ∃es,ds= [.sl (P.cellsOf e) es]∧es.length*P.bytesOf e≤reachBytes∧∀x∈es,A2D P e x:=by
 cases h with
 |sl es h hl he=>rw[i]at h;cases h;exact⟨es,rfl,hl,he⟩
 |bool b h=>rw[i]at h;cases h
 |str s h hs=>rw[i]at h;cases h
 |int n h=>rw[i]at h;cases h
 |struct ps h=>rw[i]at h;cases h
theorem A5C{t:TypeId}{fs:Array Field}{ds:List D}(j:P.underlying t=some (.struct fs))(h:A2D P t ds): ∃ps:List (List D),ds=ps.flatten∧ps.length=fs.size∧∀(i:Nat) (f:Field) (p:List D),fs[i]? =some f→ps[i]? =some p→A2D P f.type p:=by
 cases h with
 |struct ps h hl hp=>rw[j]at h;cases h;exact⟨ps,rfl,hl,hp⟩
 |bool b h=>rw[j]at h;cases h
 |str s h hs=>rw[j]at h;cases h
 |int n h=>rw[j]at h;cases h
 |sl es h=>rw[j]at h;cases h
theorem A9U{n:Int}(h:(Lit.int .i64 n).wf=true): -9223372036854775808≤n∧n≤9223372036854775807:=by
 unfold Lit.wf at h;rw[D1U,D1d,D1d]at h;exact h
theorem A36(hl:laidOutB P=true){W m:World}(hb:Below W.heap.size W m): ∀{j:List TypeId} {vs:List Value} {ds:List (DataW H)} {ps:List MemPlace},j.all (fun t=>P.readableRec t&&decide (t<P.types.size))=true→
  DataW.TrodAll enc P W 0 (fun _=>true) true j vs ds ps→(∀x∈ps,x.block<W.heap.size)→DataW.TrodAll enc P m 0 (fun b=>decide (b<W.heap.size)) true j vs ds ps
 | [],[],[],_,_,h,_=>h
 | [],[],_::_,_,_,h,_=>h.elim
 | [],_::_,_,_,_,h,_=>h.elim
 |_::_,[],_,_,_,h,_=>h.elim
 |_::_,_::_,[],_,_,h,_=>h.elim
 |t::j,v::vs,d::ds,ps,ht,h,i=>by
  obtain⟨p,q,h1,o,rfl⟩:=h;simp only[D2K,D1U,D1d]at ht;exact⟨p,q,Below.trod hl ht.1.1 ht.1.2 h1 hb (fun x hx=>i x (List.mem_append_left _ hx)),A36 hl hb ht.2 o (fun x hx=>i x (List.mem_append_right _ hx)),rfl⟩
theorem B5L{f:Nat}{fn:Func}{s:ChangeSpec}{W:World}{args:Array Value}{ds U:List (DataW H)}{j:List MemPlace}{tb:TypeId}(o:laidOutB P=true)(r:fn.params.toList.all (fun t=>P.readableRec t&&decide (t<P.types.size))=true)
  (hv:s.vars= []) (y:fn.resultTypes= #[tb]) (hb:P.underlying tb=some .bool) (hs:s.fn H ds= {results:=[.lit (.bool true)],args:=ds})
  (A:DataW.Whole enc P fn.params.toList s.vars false W args.toList ds U j) (Hp:Heap) (V: ∀b,Hp.held b=false) (X:Sat Hp W) (xs:List D) (hx:xs.length=args.size) (Y: ∀(i:Nat) d,xs[i]? =some d→R W Hp d (args.getD i Go.undef))
  (hA: ∀Q:D→Heap→Prop,Q (.bool true) Hp→ACalls P f xs Hp Q):Calls P f args W fun e G=>∃v,e= .returned v∧s.post enc P fn false true false false W args v G:=by
 have I:=A.lt;have J:=A;obtain⟨p,q,M,T,rfl,a0,a6⟩:=A;rw[hv]at T;obtain⟨rfl,rfl⟩:=trodVars_none T;refine((hA (fun d _=>d= .bool true) rfl).2 W args hx Y X).mono fun e G ⟨v,he,d,H',h1,h2,z,h4,h5⟩=>⟨v,he,?_⟩
 subst h5;have O:=h1.bool_inv;subst O;have m:Below W.heap.size W G:=⟨z.os,z.tape,z.output,z.size,fun k hk=>z.block k hk (V k)⟩
 have u:s.fn H (ds++[])= {results:=[.lit (.bool true)],args:=ds}:=by rw[D16];exact hs
 refine⟨ds,[],p++[],[],p,[],J,?_,?_,?_,m.frame _,fun h=>by cases h⟩
 ·rw[u,y];exact trodAll_mk1 (shut_bool hb true)
 ·rw[u];exact A36 o m r M (fun x hx=>I x (by simpa using hx))
 ·rw[u,hv];exact rfl
theorem A9V{P:Program}{w:World}: ∀{l:List (String×DataW Unit)} {ps:List MemPlace},DataW.LaidVars P w l ps→∀n d,(n,d)∈l→
  ∃g t cs fuel p,P.globalNamed n=some g∧(P.globals[g]?).map (·.type)=some t∧w.var? P n=some cs∧DataW.trod (fun _=>()) P w 0 (fun _=>true) false fuel t cs.toList=some (d,p)
 | [],_,_,n,d,h=>by cases h
 |(o,u)::r,ps,h,n,d,hm=>by
  obtain⟨g,t,cs,fuel,p,q,h1,i,j,m,h5,_⟩:=h;rcases D1j.1 hm with e|hm
  ·cases e;exact⟨g,t,cs,fuel,p,h1,i,j,m⟩
  ·exact A9V h5 n d hm
theorem C00{P:Program}{W:World}{laid:List (String×DataW Unit)}(h:laidMet P laid W){name:String}{k:IntKind}{y:List Int}(hm:(name,Lib.tabData k y)∈laid){g:Nat}{t e:TypeId}{n:Nat}
  (A:P.globalNamed name=some g) (o:(P.globals[g]?).map (·.type)=some t) (ht:P.underlying t=some (.array n e)) (he:P.underlying e=some (.int k)) (q:P.cellsOf e=1) (r:P.cellsOf t=n) (Hp:Heap):ObjOk W Hp g (.ro (B0O k y)):=by
 obtain⟨ps,hl,_⟩:=h;obtain⟨J,M,cs,fuel,p,u,x,i,hd⟩:=A9V hl _ _ hm;obtain rfl:=Option.some.inj (A.symm.trans u);obtain rfl:=Option.some.inj (o.symm.trans x);have m:=Lib.cells_of_tab ht he q r hd;unfold World.var? at i;rw[A]at i;simp only[D1l]at i;split at i
 ·rename_i c T G hw;cases i;refine⟨cs,T,G,hw,by rw[←D18,m];simp[B0O],fun j d hd=>?_⟩;simp only[B0O,D1e,D1Q]at hd;obtain⟨z,I,rfl⟩:=hd;have e:cs.getD j Go.undef= .int k z:=by
   rw[show cs.getD j Go.undef=cs.toList.getD j Go.undef by simp,m];simp[I]
  rw[e];exact⟨rfl,.int _ _⟩
 ·cases i
end
end Go.Av
section
set_option maxRecDepth 100000
namespace Go.Proofs.YtibphjonmikciaaGreatDoor
open Go Go.Av Go.Lexs Go.Lin
theorem own:ownKnob Tryz.prog.godebug=none:=by kernel_rfl
theorem C01:laidOutB Tryz.prog=true:=by kernel_rfl
def A9W(u v:Nat):Heap:=fun g=>if g=1 then some (.ro (B0O .u64 Lib.pow10Tab))
 else if g=2 then some (.ro [.iface u .undef])
 else if g=3 then some (.ro [.iface v .undef])else none
theorem A4r(u v:Nat)(b:Nat):(A9W u v).held b=false:=by
 cases h:A9W u v b with
 |none=>exact G7 h
 |some o=>
  have: ∃cs,o= .ro cs:=by
   unfold A9W at h;repeat' (split at h;· cases h;exact⟨_,rfl⟩)
   cases h
  obtain⟨cs,rfl⟩:=this;rw[I1 h];rfl
theorem B5M(u v:Nat):Tabs (A9W u v):=by
 refine⟨?_,⟨u,?_⟩,⟨v,?_⟩⟩<;>(unfold A9W;simp only[Nat.reduceEqDiff,if_true,if_false])
theorem B34{P:Program}{W:World}{laid:List (String×DataW Unit)}(h:laidMet P laid W){name A:String}{x:DataW Unit}(hm:(name,DataW.iface A x)∈laid){g:Nat}{t:TypeId}{ms:Array String}
  (y:P.globalNamed name=some g) (o:(P.globals[g]?).map (·.type)=some t) (z:(match P.underlying t with|some (.interface _)=>true|_=>false)=true) (Hp:Heap): ∃u,ObjOk W Hp g (.ro [.iface u .undef]):=by
 obtain⟨ps,hl,_⟩:=h;obtain⟨J,M,cs,fuel,p,q,r,i,hd⟩:=A9V hl _ _ hm;obtain rfl:=Option.some.inj (y.symm.trans q);obtain rfl:=Option.some.inj (o.symm.trans r);have hc: ∃u v,cs.toList= [.iface u v]:=by
  cases fuel with
  |zero=>simp[DataW.trod]at hd
  |succ fuel=>
   unfold DataW.trod at hd;split at z
   ·rename_i ms G;rw[G]at hd;split at hd<;>first|(rename_i h1 O;cases h1;done)|skip
    all_goals first|exact⟨_,_,by assumption⟩|(simp at hd;done)
   ·cases z
 obtain⟨u,v,m⟩:=hc;unfold World.var? at i;rw[y]at i;simp only[D1l]at i;split at i
 ·rename_i c T I hw;cases i;refine⟨u,cs,T,I,hw,by rw[←D18,m];rfl,fun j d hd=>?_⟩
  match j,hd with
  |0,hd=>
   cases hd;have e:cs.getD 0 Go.undef= .iface u v:=by
    rw[show cs.getD 0 Go.undef=cs.toList.getD 0 Go.undef by simp,m];rfl
   rw[e];exact⟨rfl,.iface _ _ _ (.undef _)⟩
  |j+1,hd=>cases hd
 ·cases i
theorem B8X:(Rows.laid_internal_strconv_uint64pow10:DataW Unit)=Lib.tabData .u64 Lib.pow10Tab:=by kernel_rfl
theorem B8Y{W:World}{laid:List (String×DataW Unit)}(h:laidMet Tryz.prog laid W)(h1:("internal/strconv.uint64pow10",(Rows.laid_internal_strconv_uint64pow10:DataW Unit))∈laid)(m:("strconv.ErrSyntax",(Rows.laid_strconv_ErrSyntax:DataW Unit))∈laid)(p:("strconv.ErrRange",(Rows.laid_strconv_ErrRange:DataW Unit))∈laid):
  ∃u v,Sat (A9W u v) W:=by
 rw[B8X]at h1;obtain⟨u,q⟩:=B34 (ms:= #[]) h m (g:=2) (by kernel_rfl) (t:=140) (by kernel_rfl) (by kernel_rfl) (fun _=>none);obtain⟨v,hv⟩:=B34 (ms:= #[]) h p (g:=3) (by kernel_rfl) (t:=140) (by kernel_rfl) (by kernel_rfl) (fun _=>none);refine⟨u,v,?_⟩;intro b o hb;unfold A9W at hb;have mono: ∀{b x:Nat},ObjOk W (fun _=>none) b (.ro [.iface x .undef])→ObjOk W (A9W u v) b (.ro [.iface x .undef]):=fun {b x} ⟨c,T,r,z,A,i⟩=>⟨c,T,r,z,A,fun j d hd=>⟨(i j d hd).1,by
  have:=(i j d hd).2
  match j,hd with
  |0,hd=>
   cases hd;generalize c.getD 0 Go.undef=y at this⊢;cases this with
   |iface _ _ v hr=>exact .iface _ _ _ (.undef _)
  |j+1,hd=>cases hd⟩⟩
 split at hb
 ·rename_i e;cases hb;subst e;exact C00 h h1 (by kernel_rfl) (t:=(Tryz.prog.globals[1]?.map (·.type)).getD 0) (by kernel_rfl) (n:=20) (e:=196) (by kernel_rfl) (by kernel_rfl) (by kernel_rfl) (by kernel_rfl) _
 split at hb
 ·rename_i e;cases hb;subst e;exact mono q
 split at hb
 ·rename_i e;cases hb;subst e;exact mono hv
 ·cases hb
theorem A61{α :Type}: ∀(l:List α),l.length=3→∃a b c,l= [a,b,c]
 | [a,b,c],_=>⟨a,b,c,rfl⟩
 | [],h=>by cases h
 | [_],h=>by cases h
 | [_,_],h=>by cases h
 |_::_::_::_::_,h=>by simp at h
theorem B8Z{α :Type}: ∀(l:List α),l.length=2→∃a b,l= [a,b]
 | [a,b],_=>⟨a,b,rfl⟩
 | [],h=>by cases h
 | [_],h=>by cases h
 |_::_::_::_,h=>by simp at h
theorem C2I{α :Type}{f: α →List D}{p: α →Prop}: ∀(es:List (List D)),(∀x∈es,∃t,x=f t∧p t)→∃l:List α,es=Rw f l∧∀t∈l,p t
 | [],_=>⟨[],rfl,by simp⟩
 |x::es,h=>by
  obtain⟨t,rfl,ht⟩:=h x (by simp);obtain⟨l,rfl,hl⟩:=C2I es (fun y j=>h y (by simp[j]));refine⟨t::l,rfl,fun u i=>?_⟩;rcases D1j.1 i with rfl|i
  ·exact ht
  ·exact hl u i
theorem C02{el:List D}(h:A2D Tryz.prog 114 el): ∃t:LTm,el=J7 t∧(t.v.size≤140737488351232∧U3 t.c):=by
 have i:reachBytes=140737488351232:=rfl;obtain⟨ps,rfl,hl,hp⟩:=A5C Tryz.underlying114 h;obtain⟨j,m,rfl⟩:=B8Z ps hl;obtain⟨s,rfl,hs⟩:=B1Z (by kernel_rfl) (hp 0 _ _ rfl rfl);obtain⟨n,rfl,hn⟩:=A35 (k:=.i64) (by kernel_rfl) (hp 1 _ _ rfl rfl);exact⟨⟨s,n⟩,rfl,by simp only[];omega,A9U hn⟩
theorem B8a{el:List D}(h:A2D Tryz.prog 25 el): ∃a:LinV,el=E8 a∧l4 a:=by
 have m:reachBytes=140737488351232:=rfl;obtain⟨ps,rfl,hl,hp⟩:=A5C Tryz.underlying25 h;obtain⟨r,u,x,rfl⟩:=A61 ps hl;obtain⟨es,rfl,he,j⟩:=C0z (e:=114) (by kernel_rfl) (hp 0 _ _ rfl rfl);obtain⟨k,rfl,hk⟩:=A35 (k:=.i64) (by kernel_rfl) (hp 1 _ _ rfl rfl);obtain⟨b,rfl⟩:=B5K (by kernel_rfl) (hp 2 _ _ rfl rfl);have c1:Tryz.prog.cellsOf 114=2:=by kernel_rfl
 have o:Tryz.prog.bytesOf 114=24:=by kernel_rfl
 rw[o]at he;obtain⟨l,rfl,i⟩:=C2I (f:=J7) (p:=fun t=>t.v.size≤140737488351232∧U3 t.c) es (fun y q=>C02 (j y q));rw[D6]at he;rw[c1];exact⟨⟨l,k,b⟩,rfl,by simp only[];omega,fun t ht=>(i t ht).1,fun t ht=>(i t ht).2,A9U hk⟩
open Go Go.Av Go.Lexs Go.Lin Go.Fo
theorem B5N{α :Type}: ∀(l:List α),l.length=5→∃a b c d e,l= [a,b,c,d,e]
 | [a,b,c,d,e],_=>⟨a,b,c,d,e,rfl⟩
 | [],h=>by cases h
 | [_],h=>by cases h
 | [_,_],h=>by cases h
 | [_,_,_],h=>by cases h
 | [_,_,_,_],h=>by cases h
 |_::_::_::_::_::_::_,h=>by simp at h
theorem B35:plainB Tryz.prog [28,26,22,25,114,23,71,40,4,3,9]=true:=by kernel_rfl
theorem C03:laidOutB Tryz.pinned.checked.prog=true:=by kernel_rfl
theorem B8b:mapsRowed Tryz.pinned.checked.prog=true:=by kernel_rfl
theorem B8c:Tryz.pinned.checked.prog.stopsHeard=true:=by kernel_rfl
theorem C4m:Tryz.pinned.checked.prog.mayEnter=true:=by kernel_rfl
end Go.Proofs.YtibphjonmikciaaGreatDoor
end
namespace Go.Av
open Go.RowKit Go.ChangeShapes Go.WideShapes
inductive FitsB(P:Program):TypeId→List D→Nat→Prop
 |bool {t:TypeId} (b:Bool) (n:Nat) (h:P.underlying t=some .bool):FitsB P t [.bool b] n
 |int {t:TypeId} {k:IntKind} (m:Int) (n:Nat) (h:P.underlying t=some (.int k)) (hw:(Lit.int k m).wf=true):FitsB P t [.int k m] n
 |str {t:TypeId} (s:ByteArray) (n:Nat) (h:P.underlying t=some .string) (hs:s.size≤reachBytes):FitsB P t [.str s] n
 |sl {t e:TypeId} (es:List (List D)) (ns:Nat→Nat) (n:Nat) (h:P.underlying t=some (.slice e)) (hl:es.length*P.bytesOf e≤reachBytes) (he: ∀(i:Nat) x,es[i]? =some x→FitsB P e x (ns i)) (h1: ∀i,i<es.length→1≤ns i) (hn:1+((List.range es.length).map ns).sum≤n):FitsB P t [.sl (P.cellsOf e) es] n
 |struct {t:TypeId} {fs:Array Field} (ps:List (List D)) (ns:Nat→Nat) (n:Nat) (h:P.underlying t=some (.struct fs)) (hl:ps.length=fs.size) (hp: ∀(i:Nat) (f:Field) (p:List D),fs[i]? =some f→ps[i]? =some p→FitsB P f.type p (ns i)) (h1: ∀i,i<fs.size→1≤ns i) (hn:1+((List.range fs.size).map ns).sum≤n):FitsB P t ps.flatten n
theorem FitsB.fits{P:Program}{t:TypeId}{ds:List D}{n:Nat}(h:FitsB P t ds n):A2D P t ds:=by
 induction h with
 |bool b n h=>exact .bool b h
 |int m n h hw=>exact .int m h hw
 |str s n h hs=>exact .str s h hs
 |sl es ns n h hl he h1 hn j=>
  refine .sl es h hl fun x hx=>?_;obtain⟨i,o⟩:=List.mem_iff_getElem?.1 hx;exact j i x o
 |struct ps ns n h hl hp h1 hn j=>exact .struct ps h hl j
theorem A62(l:List Nat):((List.range l.length).map fun i=>l.getD i 0)=l:=by
 apply List.ext_getElem?;intro i;rw[D1e];by_cases h:i<l.length
 ·rw[List.getElem?_range h];simp[h]
 ·rw[List.getElem?_eq_none (by simp;omega),List.getElem?_eq_none (by omega)];rfl
section
variable {H:Type} {enc:TypeId×Value→H} {P:Program}
structure C4n(bk:DataW H→Nat):Prop where
 pos: ∀d,1≤bk d
 slice: ∀es sp,1+(es.map bk).sum≤bk (.slice es sp)
 agg: ∀ps,1+(ps.map bk).sum≤bk (.agg ps)
theorem A7K{bk:DataW H→Nat}(hk:C4n bk){l:List TypeId}(hB:plainB P l=true){w:World}{base:Nat}{sp:Nat→Bool}{hd:Bool}{Hp:Heap}(hH: ∀b,Hp.held b=false):
  ∀(n:Nat) (t:TypeId) (cs:List Value) (x:DataW H×List MemPlace),t∈l→DataW.trod enc P w base sp hd n t cs=some x→(x.1.weights P t).all (· ≤reachBytes)=true→
   cs.length=P.cellsOf t∧∃ds,FitsB P t ds (bk x.1)∧ds.length=cs.length∧B8W w Hp ds cs:=by
 intro n
 induction n with
 |zero=>intro t cs x _ h;simp[DataW.trod]at h
 |succ n ih=>
  intro t cs x ht h hw;have q:A4q P l t=true:=D1s.1 hB t ht;unfold A4q at q;have one: ∀{d:D} {v:Value},d.one=true→R w Hp d v→B8W w Hp [d] [v]:=fun h1 h2 j d' G=>by
   cases j with
   |zero=>simp at G;subst G;exact⟨h1,h2⟩
   |succ j=>simp at G
  cases A:P.underlying t with
  |none=>rw[A]at q;cases q
  |some u=>
   cases u with
   |bool=>
    rw[A]at q;obtain⟨b,rfl,rfl⟩:=DataW.trod_bool A h;exact⟨(D1I q).symm,_,.bool b _ A,rfl,one rfl (.bool b)⟩
   |int k=>
    rw[A]at q;obtain⟨m,rfl,rfl,c0⟩:=DataW.trod_int A h;exact⟨(D1I q).symm,_,.int m _ A c0,rfl,one rfl (.int k m)⟩
   |string=>
    rw[A]at q;obtain⟨s,rfl,rfl,_⟩:=DataW.trod_string A h;have hsz:s.size≤reachBytes:=by simpa [DataW.weights]using hw
    exact⟨(D1I q).symm,_,.str s _ A hsz,rfl,one rfl (.str s)⟩
   |slice e=>
    rw[A]at q;simp only[D1U,D1d]at q;obtain⟨⟨⟨b2,W⟩,c2⟩,d7⟩:=q;have W:e∈l:=by simpa using W
    rcases DataW.trod_slice A h with⟨rfl,rfl⟩|⟨a,len,cap,o,rest,m,hm,rfl,rfl,hb,c4,d8,hlen,X,_,_⟩
    ·exact⟨b2.symm,_,.sl [] (fun _=>1) _ A (by simp) (by simp) (by simp) (by simpa using hk.pos _),rfl,one rfl (.sl0 _ _ _)⟩
    ·cases hm;have b3:(o.length+rest.length)*P.bytesOf e≤reachBytes∧(DataW.weightsAll P e (o.map (·.1))).all (· ≤reachBytes)=true:=by
      rw[DataW.weights,A]at hw;simp only[D2K,D2L,D1U,D1d,D10]at hw;exact⟨hw.1,hw.2.1⟩
     have Y: ∀i,∃p:List D×List Value,i<len→FitsB P e p.1 ((o.map fun y=>bk y.1).getD i 0)∧p.1.length=P.cellsOf e∧B8W w Hp p.1 p.2∧∀j,j<P.cellsOf e→w.cell? ((a.add (i*P.cellsOf e)).add j)=some (p.2.getD j Go.undef):=by
      intro i;by_cases r:i<len
      ·have U:=X i r;have a0:i<o.length:=by omega
       rw[D1Y a0,D1T]at U;obtain⟨ci,c5,c6⟩:=U;obtain⟨_,a6,c7⟩:=World.cells?_some c5;obtain⟨k1,ds,k2,k3,k4⟩:=ih e ci o[i] W c6 (A2E b3.2 _ (D2F.2 ⟨_,D1V a0,rfl⟩));refine⟨(ds,ci),fun _=>⟨by rw[List.getD_eq_getElem?_getD,D1e,D1Y a0];exact k2,by rw[k3];exact k1,k4,fun j hj=>?_⟩⟩;rw[c7 j hj,List.getD_eq_getElem?_getD,D1Y (by rw[a6];exact hj)];rfl
      ·exact⟨([],[]),fun h=>absurd h r⟩
     obtain⟨g,T⟩:=Classical.skolem.1 Y;have V: ∀(i:Nat) (x:List D),((List.range len).map fun i=>(g i).1)[i]? =some x→i<len∧x=(g i).1:=fun i x hx=>by
      simp only[D1e,D1Q]at hx;obtain⟨y,U,rfl⟩:=hx;have r:=(D1R.1 U).1;simp at r;rw[List.getElem?_range r]at U;cases U;exact⟨r,rfl⟩
     have J:((List.range len).map fun i=>(g i).1).length=len:=by simp
     refine⟨b2.symm,_,.sl ((List.range len).map fun i=>(g i).1) (fun i=>(o.map fun y=>bk y.1).getD i 0) _ A ?_ ?_ ?_ ?_,rfl,one rfl ?_⟩
     ·rw[J];refine D2N (D1x _ ?_) b3.1;omega
     ·intro i x r;obtain⟨c8,rfl⟩:=V i x r;exact(T i c8).1
     ·intro i r;rw[J]at r;rw[List.getD_eq_getElem?_getD,D1e,D1Y (by omega)];exact hk.pos _
     ·have e1:((List.range len).map fun i=>(o.map fun y=>bk y.1).getD i 0)=(o.map (·.1)).map bk:=by
       rw[List.map_map,←hlen,←(show (o.map fun y=>bk y.1).length=o.length from D10 ..),A62];rfl
      rw[J,e1];exact hk.slice _ _
     ·show R w Hp (.sl (P.cellsOf e) ((List.range len).map fun i=>(g i).1)) (.slice (some a) len cap);by_cases hz:len=0
      ·subst hz;exact .sl0 _ _ _
      ·have z:=(T 0 (by omega)).2.2.2 0 c2;rw[Nat.zero_mul]at z;have I:a.spot=none:=by
        have e0:(a.add 0).add 0=a:=rfl;rw[e0]at z;unfold World.cell? at z;split at z
        ·split at z
         ·cases z
         ·rename_i b4;cases c9:a.spot with
          |none=>rfl
          |some _=>rw[c9]at b4;exact absurd rfl b4
        ·cases z
       have b6:a.block<w.heap.size:=by
        have e0:(a.add 0).add 0=a:=rfl;rw[e0]at z;unfold World.cell? at z;by_cases d0:a.block<w.heap.size
        ·exact d0
        ·rw[Array.getElem?_eq_none (by omega)]at z;cases z
       have a9: ∀i j,i<len→j<P.cellsOf e→w.cell? ⟨a.block,a.off+i*P.cellsOf e+j,none⟩=some ((g i).2.getD j Go.undef):=fun i j r hj=>by
        have:=(T i r).2.2.2 j hj;rw[B1Y I,B1Y rfl]at this;exact this
       have hR:=R.sl (w:=w) (H:=Hp) (P.cellsOf e) ((List.range len).map fun i=>(g i).1) a.block a.off cap (fun i j=>(g i).2.getD j Go.undef) b6 (hH _)
        (fun i x hx=>by obtain⟨r,rfl⟩:=V i x hx;exact(T i r).2.1) (by rw[J];exact c4) (fun i j r hj=>a9 i j (by rw[J]at r;exact r) hj)
        (fun i x j d hx G=>by obtain⟨r,rfl⟩:=V i x hx;exact((T i r).2.2.1 j d G).1) (fun i x j d hx G=>by obtain⟨r,rfl⟩:=V i x hx;exact((T i r).2.2.1 j d G).2)
       rw[J]at hR;obtain⟨ab,ao,e4⟩:=a;simp only at I;subst I;exact hR
   |struct fs=>
    rw[A]at q;simp only[D1U,D1d,D1s]at q;obtain⟨b0,b7⟩:=q;obtain⟨xs,m,hm,rfl,a6,d2,X⟩:=DataW.trod_struct A h;cases hm;have d3:(DataW.weightsEach P (fs.toList.map (·.type)) (xs.map (·.1))).all (· ≤reachBytes)=true:=by
     rw[DataW.weights,A]at hw;exact hw
    have Y: ∀i:Nat,∃p:List D,∀f:Field,fs[i]? =some f→FitsB P f.type p ((xs.map fun y=>bk y.1).getD i 0)∧p.length=P.cellsOf f.type∧B8W w Hp p ((cs.drop f.offset).take (P.cellsOf f.type)):=by
     intro i;cases M:fs[i]? with
     |none=>exact⟨[],fun f h=>by cases h⟩
     |some f=>
      have r:=(D1g.1 M).1;have b1:i<xs.length:=by omega
      have U:=X i f M;rw[D1Y b1]at U;have d4:f.type∈l:=by
       have:=b7 f (by rw[D1w];exact Array.mem_of_getElem? M);simpa using this
      have d5:=X4 d3 i f.type xs[i].1 (by simp[M]) (by simp[D1Y b1]);obtain⟨k1,ds,k2,k3,k4⟩:=ih f.type _ xs[i] d4 U d5;refine⟨ds,fun f' O=>?_⟩;cases O;exact⟨by rw[List.getD_eq_getElem?_getD,D1e,D1Y b1];exact k2,by rw[k3];exact k1,k4⟩
    obtain⟨g,T⟩:=Classical.skolem.1 Y;have d6:((List.range fs.size).map g).length=fs.size:=by simp
    have b8: ∀(i:Nat) (f:Field) (p:List D),fs[i]? =some f→((List.range fs.size).map g)[i]? =some p→p=g i:=fun i f p M hp=>by
     have r:=(D1g.1 M).1;rw[D1e,List.getElem?_range r]at hp;cases hp;rfl
    obtain⟨_,hlen,b9⟩:=A8L (P:=P) (w:=w) (Hp:=Hp) (cs:=cs) fs.toList 0 (P.cellsOf t) ((List.range fs.size).map g) b0 (by omega) (by simp) (fun i f p M hp=>by
     have O:fs[i]? =some f:=by simpa using M
     have:=b8 i f p O hp;subst this;exact⟨(T i f O).2.1,(T i f O).2.2⟩)
    have e1:((List.range fs.size).map fun i=>(xs.map fun y=>bk y.1).getD i 0)=(xs.map (·.1)).map bk:=by
     rw[List.map_map,←d2,←(show (xs.map fun y=>bk y.1).length=xs.length from D10 ..),A62];rfl
    refine⟨a6,_,.struct ((List.range fs.size).map g) (fun i=>(xs.map fun y=>bk y.1).getD i 0) _ A d6 (fun i f p M hp=>by have:=b8 i f p M hp;subst this;exact(T i f M).1) (fun i r=>by rw[List.getD_eq_getElem?_getD,D1e,D1Y (by omega)];exact hk.pos _) (by rw[e1];exact hk.agg _),by omega,fun j d hd=>?_⟩;have:=b9 j d hd;rwa [Nat.zero_add]at this
   |_=>rw[A]at q;cases q
def A4s(P:Program)(t:TypeId)(x:D)(n:Nat):Prop:=match P.underlying t with
 |some (.struct _)=>∃ds,x= .agg ds∧FitsB P t ds n
 |_=>FitsB P t [x] n
theorem A8M{bk:DataW H→Nat}(hk:C4n bk){l:List TypeId}(hB:plainB P l=true){w:World}{base I:Nat}{sp:Nat→Bool}{hd:Bool}{Hp:Heap}(J: ∀b,Hp.held b=false){t:TypeId}{v:Value}{d:DataW H}{ps:List MemPlace}(ht:t∈l)
  (j:Value.okWide P w .any I t v) (h:DataW.Trod enc P w base sp hd t v d ps) (hw:(d.weights P t).all (· ≤reachBytes)=true): ∃x,A4s P t x (bk d)∧R w Hp x v:=by
 obtain⟨n,hn⟩:=h;obtain⟨h1,ds,G,y,r⟩:=A7K hk hB J n t v.cells.toList (d,ps) ht hn hw;have p:A4q P l t=true:=D1s.1 hB t ht;have o:(∀fs,P.underlying t≠some (.struct fs))→v.cells.toList= [v]→∃x,A4s P t x (bk d)∧R w Hp x v:=by
  intro z hv;rw[hv]at y r
  match ds,y with
  | [x],_=>
   refine⟨x,?_,(r 0 x rfl).2⟩;unfold A4s;split
   ·rename_i fs A;exact absurd A (z fs)
   ·exact G
 cases q:P.underlying t with
 |none=>unfold A4q at p;rw[q]at p;cases p
 |some u=>
  cases u with
  |bool=>obtain⟨b,rfl⟩:=okWide_bool q j;exact o (by simp[q]) rfl
  |int k=>obtain⟨m,rfl⟩:=okWide_int q j;exact o (by simp[q]) rfl
  |string=>obtain⟨s,rfl⟩:=okWide_string q j;exact o (by simp[q]) rfl
  |slice e=>obtain⟨a,len,cap,rfl⟩:=okWide_slice q j;exact o (by simp[q]) rfl
  |struct fs=>
   simp only[Value.okWide,q]at j;obtain⟨cs,rfl,hsz,_⟩:=j;refine⟨.agg ds,?_,.agg _ _ (by rw[y];rfl) (fun i d hd=>(r i d hd).1) (fun i d hd=>?_)⟩
   ·unfold A4s;rw[q];exact⟨ds,rfl,G⟩
   ·have:=(r i d hd).2;have e:(Value.agg cs).cells.toList.getD i Go.undef=cs.getD i Go.undef:=by
     show cs.toList.getD i Go.undef=_;simp
    rwa [e]at this
  |_=>unfold A4q at p;rw[q]at p;cases p
theorem A37{t:TypeId}{fs:Array Field}{ds:List D}{n:Nat}(j:P.underlying t=some (.struct fs))(h:FitsB P t ds n): ∃(ps:List (List D)) (ns:Nat→Nat),ds=ps.flatten∧ps.length=fs.size∧(∀(i:Nat) (f:Field) (p:List D),fs[i]? =some f→ps[i]? =some p→FitsB P f.type p (ns i))∧(∀i,i<fs.size→1≤ns i)∧1+((List.range fs.size).map ns).sum≤n:=by
 cases h with
 |struct ps ns n h hl hp h1 hn=>rw[j]at h;cases h;exact⟨ps,ns,rfl,hl,hp,h1,hn⟩
 |bool b n h=>rw[j]at h;cases h
 |int m n h=>rw[j]at h;cases h
 |str s n h hs=>rw[j]at h;cases h
 |sl es ns n h=>rw[j]at h;cases h
theorem B8d{t e:TypeId}{ds:List D}{n:Nat}(j:P.underlying t=some (.slice e))(h:FitsB P t ds n): ∃(es:List (List D)) (ns:Nat→Nat),ds= [.sl (P.cellsOf e) es]∧(∀(i:Nat) x,es[i]? =some x→FitsB P e x (ns i))∧(∀i,i<es.length→1≤ns i)∧1+((List.range es.length).map ns).sum≤n:=by
 cases h with
 |sl es ns n h hl he h1 hn=>rw[j]at h;cases h;exact⟨es,ns,rfl,he,h1,hn⟩
 |bool b n h=>rw[j]at h;cases h
 |int m n h=>rw[j]at h;cases h
 |str s n h hs=>rw[j]at h;cases h
 |struct ps ns n h=>rw[j]at h;cases h
theorem A1f{ns:Nat→Nat}{m:Nat}: ∀(k:Nat),(∀i,i<k→m≤ns i)→m*k≤((List.range k).map ns).sum
 |0,_=>by simp
 |k+1,h=>by
  have:=A1f (ns:=ns) (m:=m) k fun i j=>h i (by omega);have o:=h k (by omega);rw[List.range_succ,D2H,List.sum_append,Nat.mul_add];simp only[D2Y,List.map_nil,List.sum_cons,List.sum_nil,Nat.mul_one];omega
theorem B8e{α :Type}{f: α →List D}{p: α →Prop}{w: α →Nat}: ∀(es:List (List D)) (ns:Nat→Nat),(∀(i:Nat) x,es[i]? =some x→∃a,x=f a∧p a∧w a≤ns i)→∃l:List α,es=Rw f l∧(∀a∈l,p a)∧(l.map w).sum≤((List.range es.length).map ns).sum
 | [],_,_=>⟨[],rfl,by simp,by simp⟩
 |x::es,ns,h=>by
  obtain⟨a,rfl,j,hw⟩:=h 0 x rfl;obtain⟨l,rfl,hl,hs⟩:=B8e (f:=f) (p:=p) (w:=w) es (fun i=>ns (i+1)) fun i x hx=>h (i+1) x (by simpa using hx);refine⟨a::l,rfl,fun b hb=>(D1j.1 hb).elim (fun e=>e ▸ j) (hl b),?_⟩;rw[D1M,List.range_succ_eq_map,D2Y,D2Y,List.sum_cons,List.sum_cons,List.map_map];exact Nat.add_le_add hw hs
end
end Go.Av
section
set_option maxRecDepth 100000
namespace Go.Fo
open Go Go.Av Go.Lexs Go.Lin
theorem C04(l:List Fm):J9.wtL l=(l.map J9).sum:=by
 induction l with
 |nil=>rfl
 |cons f l h=>rw[J9.wtL,h,D2Y,List.sum_cons]
end Go.Fo
namespace Go.Proofs.YtibphjonmikciaaGreatDoor
open Go Go.Av Go.Lexs Go.Lin Go.Fo
theorem B5O{el:List D}{n:Nat}{a:LinV}(h:FitsB Tryz.prog 25 el n)(he:el=E8 a):3*a.t.length+4≤n:=by
 obtain⟨ps,ns,rfl,hl,hp,h1,hn⟩:=A37 Tryz.underlying25 h;obtain⟨z,A,G,rfl⟩:=A61 ps hl;obtain⟨es,ms,rfl,j,I,p⟩:=B8d (e:=114) (by kernel_rfl) (hp 0 _ _ rfl rfl);have e1:es=Rw J7 a.t:=by
  have:D.sl (Tryz.prog.cellsOf 114) es= .sl 2 (Rw J7 a.t):=by
   have:=congrArg (fun l:List D=>l[0]?) he;simpa [E8]using this
  injection this
 have key: ∀i,i<es.length→3≤ms i:=fun i q=>by
  obtain⟨qs,ks,_,J,_,r,u⟩:=A37 Tryz.underlying114 (j i _ (D1Y q));have:=A1f (ns:=ks) (m:=1) 2 r;have hn:1+((List.range 2).map ks).sum≤ms i:=u;omega
 have:=A1f (ns:=ms) (m:=3) es.length key;have o:es.length=a.t.length:=by rw[e1,D6]
 have x:=h1 1 (by decide);have y:=h1 2 (by decide);have hn:1+((List.range 3).map ns).sum≤n:=hn;have hs:((List.range 3).map ns).sum=ns 0+(ns 1+(ns 2+0)):=rfl;rw[hs]at hn;rw[o]at this p;omega
def FmB(ds:List D)(n:Nat):Prop:=∃f,ds=C1 f∧FmFit f∧3*J9 f≤n
def C99(ds:List D)(n:Nat):Prop:=∃l,ds= [.sl 7 (Rw C1 l)]∧l.length≤1466015503658∧(∀k∈l,FmFit k)∧3*J9.wtL l+1≤n
theorem B2r{t:TypeId}{ds:List D}{n:Nat}(h:FitsB Tryz.prog t ds n):(t=28→FmB ds n)∧(t=26→C99 ds n):=by
 have G:reachBytes=140737488351232:=rfl;have r:Tryz.prog.underlying 28=_:=Tryz.underlying28;have u:Tryz.prog.underlying 26=some (.slice 28):=by kernel_rfl
 have c1:Tryz.prog.cellsOf 28=7:=by kernel_rfl
 have I:Tryz.prog.bytesOf 28=96:=by kernel_rfl
 induction h with
 |bool b n h=>exact⟨(by rintro rfl;rw[r]at h;cases h),(by rintro rfl;rw[u]at h;cases h)⟩
 |int m n h hw=>exact⟨(by rintro rfl;rw[r]at h;cases h),(by rintro rfl;rw[u]at h;cases h)⟩
 |str s n h hs=>exact⟨(by rintro rfl;rw[r]at h;cases h),(by rintro rfl;rw[u]at h;cases h)⟩
 |sl es ns n h hl he h1 hn q=>
  refine⟨(by rintro rfl;rw[r]at h;cases h),?_⟩;rintro rfl;rw[u]at h;cases h;rw[I]at hl;obtain⟨l,rfl,j,hw⟩:=B8e (f:=C1) (p:=FmFit) (w:=fun f=>3*J9 f) es ns (fun i y J=>(q i y J).1 rfl);rw[D6]at hl;rw[c1];refine⟨l,rfl,by omega,j,?_⟩;have:(l.map fun f=>3*J9 f).sum=3*J9.wtL l:=by
   rw[C04];clear hw j hl he h1 hn q
   induction l with
   |nil=>rfl
   |cons f l q=>simp only[D2Y,List.sum_cons,q];omega
  omega
 |struct ps ns n h hl hp h1 hn q=>
  refine⟨?_,(by rintro rfl;rw[u]at h;cases h)⟩;rintro rfl;rw[r]at h;cases h;obtain⟨X,Y,p2,p3,p4,rfl⟩:=B5N ps hl;obtain⟨o,rfl,ho⟩:=A35 (k:=.i64) (by kernel_rfl) (hp 0 _ _ rfl rfl).fits;obtain⟨m,rfl,hm⟩:=A35 (k:=.i64) (by kernel_rfl) (hp 1 _ _ rfl rfl).fits;obtain⟨a,x,M⟩:=B8a (hp 2 _ _ rfl rfl).fits;have O:=B5O (hp 2 _ _ rfl rfl) x;subst x;obtain⟨s,rfl,hs⟩:=B1Z (by kernel_rfl) (hp 3 _ _ rfl rfl).fits;obtain⟨l,rfl,z,j,T⟩:=(q 4 _ _ rfl rfl).2 rfl;refine⟨.mk o m a s l,?_,.mk _ _ _ _ _ (A9U ho) (A9U hm) M (by omega) z j,?_⟩
  ·rw[I6];rfl
  ·have hn:1+((List.range 5).map ns).sum≤n:=hn;have A:((List.range 5).map ns).sum=ns 0+(ns 1+(ns 2+(ns 3+(ns 4+0)))):=rfl;have U:=h1 0 (by decide);have V:=h1 1 (by decide);have W:=h1 3 (by decide);rw[A]at hn;rw[L7];simp only[Fm.l,Fm.ks];omega
theorem A5D{x:D}{n:Nat}(h:A4s Tryz.prog 28 x n): ∃f:Fm,x= .agg (C1 f)∧FmFit f∧3*J9 f≤n:=by
 unfold A4s at h;rw[show Tryz.prog.underlying 28=_ from Tryz.underlying28]at h;obtain⟨ds,rfl,hv⟩:=h;obtain⟨f,rfl,i,hw⟩:=(B2r hv).1 rfl;exact⟨f,rfl,i,hw⟩
theorem C4o{H:Type}(d:DataW H):1≤Rows.uptoBulk d:=by
 cases d with
 |lit l=>cases l<;>simp[Rows.uptoBulk]
 |_=>simp[Rows.uptoBulk]
theorem B8f{H:Type}(l:List (DataW H)):Rows.uptoBulkAll l=(l.map Rows.uptoBulk).sum:=by
 induction l with
 |nil=>simp[Rows.uptoBulkAll]
 |cons x l h=>simp only[Rows.uptoBulkAll,h,D2Y,List.sum_cons]
theorem C2J{H:Type}:C4n (H:=H) Rows.uptoBulk:=⟨C4o,fun es sp=>by simp only[Rows.uptoBulk,B8f];omega,fun ps=>by simp only[Rows.uptoBulk,B8f];omega⟩
end Go.Proofs.YtibphjonmikciaaGreatDoor
end
