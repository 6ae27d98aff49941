/- FormulaOpposite, proved: for every input the law returns true, and the arguments read as before; the listed tables hold what the program's text lays (the card). No other condition than the row's own. -/
import Derived.Test.YtibphjonmikciaaGreatDoorProg
import Derived.Test.YtibphjonmikciaaGreatDoorRows
import Derived.Test.YtibphjonmikciaaGreatDoorCards
import Derived.Test.YtibphjonmikciaaGreatDoorTie
import Derived.Test.YtibphjonmikciaaGreatDoorOb5
set_option linter.unusedSimpArgs false
set_option linter.unusedVariables false
section
set_option maxRecDepth 20000
namespace Go.Fo
open Go Go.Av Go.Lexs Go.Lin
theorem B4M(b:Bool)(t:LTm)(h1:H8 (B t.v)=true)(h2:t.c.natAbs≤1048576):(S5 b t).length≤230:=by
 have:=A42 18 t.c.natAbs (by omega)
 have hn:=A2u h1
 have hb:=Y7 t.v
 unfold S5
 simp only[C9V]
 have e1:(if t.c<0 then [45]else if b=true then([]:List UInt8)else [43]).length≤1:=by split;simp;split<;>simp
 have e2:(if t.c.natAbs=1 then([]:List UInt8)else dec t.c.natAbs++[42]).length≤20:=by
  split
  ·simp
  ·simp only[C9V,C9U,C9W];omega
 omega
theorem B1v: ∀(l:List LTm) (b:Bool),(∀t∈l,H8 (B t.v)=true∧t.c.natAbs≤1048576)→(K8 b l).length≤230*l.length:=by
 intro l
 induction l with
 |nil=>intro b _;simp[K8]
 |cons t l ih=>
  intro b h
  rw[K8,C9V,C9U]
  have:=B4M b t (h t (C9a ..)).1 (h t (C9a ..)).2
  have:=ih false fun x hx=>h x (C9h _ hx)
  omega
theorem B4N{l:LinV}(h:validL l=true):(F1 l).length≤230*l.t.length+30:=by
 have ok:=L9 h
 have h1:=B1v l.t true fun t ht=>⟨(M7 ok.t t ht).1,(M7 ok.t t ht).2.2⟩
 have hk:=ok.k
 have:=A42 18 l.k.natAbs (by omega)
 have e1:(R0 l).length≤20:=by
  unfold R0 A0A
  split
  ·have e1:(if l.k<0 then [45]else if l.t.isEmpty=true then([]:List UInt8)else [43]).length≤1:=by split;simp;split<;>simp
   rw[C9V];omega
  ·simp
 have e2:(if l.e=true then([61,48]:List UInt8)else [62,61,48]).length≤3:=by split<;>simp
 unfold F1 L7
 rw[C9V,C9V];omega
theorem A6K: ∀(f:Fm),G7 D5 f=true→(D7 f).length+2≤400*K7 f:=by
 intro f
 induction f using P2 with
 |h o n l s ks ih=>
  intro hf
  have hk: ∀k∈ks,G7 D5 k=true:=fun k hk=>N8 (f:=.mk o n l s ks) hf hk
  have key: ∀(m:List Fm) (b:Bool),(∀k∈m,(D7 k).length+2≤400*K7 k)→(D7.textK b m).length≤400*K7.wtL m:=by
   intro m
   induction m with
   |nil=>intro b _;simp[D7.textK]
   |cons g gs ih2=>
    intro b hm
    have i1:=hm g (C9a ..)
    have i2:=ih2 false fun k h=>hm k (C9h _ h)
    have i3:(if b=true then([]:List UInt8)else [44,32]).length≤2:=by split<;>simp
    rw[O6,K7.wtL,C9V,C9V];omega
  have kk:=key ks true fun k hm=>ih k hm (hk k hm)
  have hw:K7 (.mk o n l s ks)=1+l.t.length+K7.wtL ks:=L1 _
  rw[hw]
  cases Q4 hf with
  |con n h=>rw[B2x rfl];split<;>(simp only[A0u,flsB,C9U,C9W];omega)
  |lin l h hp=>rw[B2y rfl];have:=B4N h;simp only[Fm.l];omega
  |var s h=>
   rw[B2z rfl]
   have:=A2u (A58 h)
   have:=Y7 s
   simp only[Fm.s,C9U];omega
  |not k=>rw[B20 rfl rfl];have:=ih k (C9a ..) (hk k (C9a ..));simp only[K7.wtL,C9U];omega
  |and ks=>rw[A4e (by simp[Fm.op]) (by simp[Fm.op]) (by simp[Fm.op]) (by simp[Fm.op])];simp only[Fm.ks,C9U,C9V,C9W];omega
  |or ks=>rw[A4e (by simp[Fm.op]) (by simp[Fm.op]) (by simp[Fm.op]) (by simp[Fm.op])];simp only[Fm.ks,C9U,C9V,C9W];omega
theorem A6L(ks:List Fm)(i:Nat)(hk: ∀k∈ks,G7 D5 k=true):(D7.textK true (ks.take i)).length≤400*K7.wtL (ks.take i):=by
 have key: ∀(m:List Fm) (b:Bool),(∀k∈m,G7 D5 k=true)→(D7.textK b m).length≤400*K7.wtL m:=by
  intro m
  induction m with
  |nil=>intro b _;simp[D7.textK]
  |cons g gs ih2=>
   intro b hm
   have i1:=A6K g (hm g (C9a ..))
   have i2:=ih2 false fun k h=>hm k (C9h _ h)
   have i3:(if b=true then([]:List UInt8)else [44,32]).length≤2:=by split<;>simp
   rw[O6,K7.wtL,C9V,C9V];omega
 exact key _ true fun k h=>hk k (List.mem_of_mem_take h)
theorem node_or{f:Fm}(hf:G7 D5 f=true):(∃m,(m=0∨m=1)∧f= .mk 1 m nilL D2 [])∨(∃l,validL l=true∧(∀t∈l.t,plainB t.v=true)∧f= .mk 2 0 l D2 [])∨(∃s,plainB s=true∧f= .mk 3 0 nilL s [])∨(∃k,f= .mk 4 0 nilL D2 [k])∨∃o ks,(o=5∨o=6)∧f= .mk o 0 nilL D2 ks:=by
 cases Q4 hf with
 |con n h=>exact .inl ⟨n,h,rfl⟩
 |lin l h hp=>exact .inr (.inl ⟨l,h,hp,rfl⟩)
 |var s h=>exact .inr (.inr (.inl ⟨s,h,rfl⟩))
 |not k=>exact .inr (.inr (.inr (.inl ⟨k,rfl⟩)))
 |and ks=>exact .inr (.inr (.inr (.inr ⟨5,ks,.inl rfl,rfl⟩)))
 |or ks=>exact .inr (.inr (.inr (.inr ⟨6,ks,.inr rfl,rfl⟩)))
theorem E8(l:List Fm)(i:Nat)(h:i<l.length):K7.wtL (l.take i)+K7 l[i]≤K7.wtL l:=by
 have:=B2b (l.take i) (l.drop i)
 rw[List.take_append_drop]at this
 have:=C2X l i h
 omega
end Go.Fo
namespace Go.Proofs.YtibphjonmikciaaGreatDoor
open Go Go.Av Go.Lexs Go.Lin Go.Fo
attribute [local irreducible] ACalls W4
set_option maxHeartbeats 4000000 in
theorem B9c(n:Nat): ∀{Q} (f:Fm) (hn:SizeOf.sizeOf f≤n) (hf:G7 D5 f=true) (fa:FmFit f) (b:Nat) (st:Option Nat) (bs:List UInt8) (hl:bs.length+400*K7 f≤140737488355328) (H:Heap) (hT:Tabs H) (hok:BldOk H b st bs)
    (h: ∀c',BldOk H b (some c') (bs++D7 f)→Q (.tuple []) (K4 H b (some c') (bs++D7 f))),ACalls Tryz.prog 68 [.box b 0,.agg (C1 f)] (K4 H b st bs) Q:=by
  induction n with
  |zero=>intro Q f hn;cases f;simp at hn
  |succ n ih=>
  intro Q f hn hf fa b st bs hl H hT hok h
  refine B2 [] B3 Tryz.func68 rfl (by kernel_rfl) (C9Q (by kernel_rfl)) (by kernel_rfl) ?_
  simp only[go_sem,Tryz.results68]
  intro b3 g3
  have htl:=A6K f hf
  have hkl:=fa.kl
  obtain⟨e3,hok3,hn3⟩:=A3d (o:=.box (C1 f)) g3 hok
  rw[e3]
  have c3:(H.set b3 (.box (C1 f))) b3=some (.box (C1 f)):=A5 _ _
  have hle:H.Le (H.set b3 (.box (C1 f))):=A2 hn3
  have hT3:=hT.le hle
  generalize H.set b3 (.box (C1 f))=Bs at hok3 c3 hle hT3⊢
  have d3: ∀{st' bs'},BldOk Bs b st' bs'→K4 Bs b st' bs' b3=some (.box (C1 f)):=fun hk=>A2Q hk _ _ c3
  have p3:=d3 hok3
  have done: ∀c':Nat,BldOk Bs b (some c') (bs++D7 f)→Fin Q (.tuple []) (K4 Bs b (some c') (bs++D7 f)):=fun c' hk=>D0r (A5B hle) (h c' (hk.less hle))
  rcases node_or hf with⟨m,hm,rfl⟩|⟨l,hv,hp,rfl⟩|⟨s,hp,rfl⟩|⟨k,rfl⟩|⟨o,ks,ho,rfl⟩
  · rw[B2x rfl]at done htl
    simp only[Fm.n]at done htl
    have z1:(⟨#[116,114,117,101]⟩:ByteArray).size=4:=rfl
    have z0:(⟨#[102,97,108,115,101]⟩:ByteArray).size=5:=rfl
    rcases hm with rfl|rfl
    all_goals
      (repeat' (first|with_reducible apply C9P|simp only[go_sem,p3]|simp(disch:=omega) only[A0,A9,I1,A3,E8]|simp(disch:=first|omega|grind) only[A6]|intro hx_|omega)
       rename_i x
       have hx:=hx_
       clear hx_
       obtain⟨e5,hok5,hn5⟩:=A3d (o:=.vec 1 [[.str ⟨#[102,97,108,115,101]⟩],[.str ⟨#[116,114,117,101]⟩]]) hx hok3
       have hle5:=A2 (o:=.vec 1 [[.str ⟨#[102,97,108,115,101]⟩],[.str ⟨#[116,114,117,101]⟩]]) hn5
       have q3:K4 (Bs.set x (.vec 1 [[.str ⟨#[102,97,108,115,101]⟩],[.str ⟨#[116,114,117,101]⟩]])) b st bs b3=_:=A2Q hok5 _ _ (hle5 _ _ c3)
       have qx:K4 (Bs.set x (.vec 1 [[.str ⟨#[102,97,108,115,101]⟩],[.str ⟨#[116,114,117,101]⟩]])) b st bs x=some (.vec 1 [[.str ⟨#[102,97,108,115,101]⟩],[.str ⟨#[116,114,117,101]⟩]]):=A2Q hok5 _ _ (A5 _ _)
       rw[e5]
       repeat' (first|with_reducible apply C9P|simp only[go_sem,q3,qx]|simp(disch:=omega) only[A0,A9,I1,A3,E8]|simp(disch:=first|omega|grind) only[A6]|intro hx_|omega)
       refine N3 b st bs _ _ hok5 ?_ ?_ fun c' hok6=>?_
       · decide
       · simp only[z1,z0];omega
       repeat' (first|with_reducible apply C9P|simp only[go_sem]|simp(disch:=omega) only[A0,A9,I1,A3,E8]|simp(disch:=first|omega|grind) only[A6]|intro hx_|omega)
       exact Fin.then (A5B hle5) (done c' (hok6.less hle5)))
  · rw[B2y rfl]at done htl
    simp only[Fm.l]at done htl
    have hlen:(S (F1 l)).size=(F1 l).length:=O1 _
    have hne:(F1 l).length≠0:=fun e=>B1j l (C9n e)
    have tx:=fun(Q:D→Heap→Prop) (H:Heap) (hT:Tabs H)=>B6Y (Q:=Q) l fa.lin H hT
    simp only[hv,if_true]at tx
    repeat' (first|with_reducible apply C9P|simp only[go_sem,p3]|simp(disch:=omega) only[A0,A9,I1,A3,E8]|simp(disch:=first|omega|grind) only[A6]|intro hx_|with_reducible refine tx _ _ (hT3.le (A2Q hok3)) ?_|omega)
    refine N3 b st bs (S (F1 l)) _ hok3 (by omega) (by omega) fun c' hok6=>?_
    rw[l9]at hok6⊢
    repeat' (first|with_reducible apply C9P|simp only[go_sem]|simp(disch:=omega) only[A0,A9,I1,A3,E8]|simp(disch:=first|omega|grind) only[A6]|intro hx_|omega)
    exact done c' hok6
  · rw[B2z rfl]at done htl
    simp only[Fm.s]at done htl
    have hlen:(⟨#[63]⟩++s:ByteArray).size=1+s.size:=by rw[ByteArray.size_append];rfl
    have hB:B (⟨#[63]⟩++s:ByteArray)=63::B s:=by rw[u7];rfl
    have hbl:=Y7 s
    simp only[C9U]at htl
    repeat' (first|with_reducible apply C9P|simp only[go_sem,p3]|simp(disch:=omega) only[A0,A9,I1,A3,E8]|simp(disch:=first|omega|grind) only[A6]|intro hx_|omega)
    refine N3 b st bs (⟨#[63]⟩++s) _ hok3 (by omega) (by omega) fun c' hok6=>?_
    rw[hB]at hok6⊢
    repeat' (first|with_reducible apply C9P|simp only[go_sem]|simp(disch:=omega) only[A0,A9,I1,A3,E8]|simp(disch:=first|omega|grind) only[A6]|intro hx_|omega)
    exact done c' hok6
  · rw[B20 rfl rfl]at done htl
    have r0:(Rw C1 [k]).getD 0 []=C1 k:=rfl
    have hsz:SizeOf.sizeOf k<SizeOf.sizeOf (Fm.mk 4 0 nilL D2 [k]):=A0O (f:=.mk 4 0 nilL D2 [k]) (C9a ..)
    have hw:K7 (.mk 4 0 nilL D2 [k])=1+K7 k:=by rw[L1];simp[Fm.l,Fm.ks,nilL,K7.wtL]
    rw[hw]at hl
    repeat' (first|with_reducible apply C9P|simp only[go_sem,p3]|simp(disch:=omega) only[A0,A9,I1,A3,E8]|simp(disch:=first|omega|grind) only[A6]|intro hx_|omega)
    refine N3 b st bs ⟨#[33]⟩ _ hok3 (by decide) (by show _+1≤_;omega) fun c' hok6=>?_
    have hB:B (⟨#[33]⟩:ByteArray)= [33]:=rfl
    rw[hB]at hok6⊢
    have q3:=d3 hok6
    repeat' (first|with_reducible apply C9P|simp only[go_sem,q3,r0]|simp(disch:=omega) only[A0,A9,I1,A3,E8]|simp(disch:=first|omega|grind) only[A6]|intro hx_|omega)
    all_goals first
      |decide
      |omega
      |skip
    refine ih k (by omega) (N8 hf (C9a ..)) (fa.kid (C9a ..)) b (some c') (bs++[33]) (by rw[C9V,C9X];omega) _ hT3 hok6 fun c7 hok7=>?_
    have he:bs++[33]++D7 k=bs++33::D7 k:=by simp
    rw[he]at hok7⊢
    repeat' (first|with_reducible apply C9P|simp only[go_sem]|simp(disch:=omega) only[A0,A9,I1,A3,E8]|simp(disch:=first|omega|grind) only[A6]|intro hx_|omega)
    exact done c7 hok7
  · have hkk: ∀k∈ks,G7 D5 k=true:=fun k hk=>N8 (f:=.mk o 0 nilL D2 ks) hf hk
    have fkk: ∀k∈ks,FmFit k:=fun k hk=>fa.kid hk
    have hkl:ks.length≤1466015503658:=hkl
    have hw:K7 (.mk o 0 nilL D2 ks)=1+K7.wtL ks:=by rw[L1];simp[Fm.l,Fm.ks,nilL]
    rw[hw]at hl
    have hz41:B (⟨#[41]⟩:ByteArray)= [41]:=rfl
    have hz44:B (⟨#[44,32]⟩:ByteArray)= [44,32]:=rfl
    have hsz: ∀k∈ks,SizeOf.sizeOf k<SizeOf.sizeOf (Fm.mk o 0 nilL D2 ks):=fun k hk=>A0O (f:=.mk o 0 nilL D2 ks) hk
    obtain⟨sg,hsg⟩: ∃sg:ByteArray,sg=if o=6 then⟨#[124,40]⟩else⟨#[38,40]⟩:=⟨_,rfl⟩
    have hft:D7 (.mk o 0 nilL D2 ks)=B sg++(D7.textK true ks++[41]):=by
      rcases ho with rfl|rfl
      · rw[A4e (by simp[Fm.op]) (by simp[Fm.op]) (by simp[Fm.op]) (by simp[Fm.op]),hsg];rfl
      · rw[A4e (by simp[Fm.op]) (by simp[Fm.op]) (by simp[Fm.op]) (by simp[Fm.op]),hsg];rfl
    rw[hft]at done htl
    have hsg2:sg.size=2:=by rw[hsg];split<;>rfl
    have hBs:=Y7 sg
    rcases ho with rfl|rfl
    all_goals
      (simp only[Int.reduceEq,if_true,if_false]at hsg
       repeat' (first|with_reducible apply C9P|simp only[go_sem,p3,←hsg]|simp(disch:=omega) only[A0,A9,I1,A3,E8]|simp(disch:=first|omega|grind) only[A6]|intro hx_|omega)
       refine N3 b st bs sg _ hok3 (by omega) (by omega) fun c' hok6=>?_
       have q3:=d3 hok6
       repeat' (first|with_reducible apply C9P|simp only[go_sem,q3]|simp(disch:=omega) only[A0,A9,I1,A3,E8]|simp(disch:=first|omega|grind) only[A6]|intro hx_|omega)
       obtain⟨X0,hX0⟩: ∃X0,X0=bs++B sg:=⟨_,rfl⟩
       rw[←hX0]at hok6 q3⊢
       have hX0l:X0.length=bs.length+2:=by rw[hX0,C9V];omega
       refine D1 [0,18,19] (fun(p0:Nat×Nat×List UInt8)=>[(20,.int .i64 p0.1)]) (fun(p0:Nat×Nat×List UInt8)=>K4 Bs b (some p0.2.1) p0.2.2) (fun(p0:Nat×Nat×List UInt8)=>p0.1≤ks.length∧BldOk Bs b (some p0.2.1) p0.2.2∧p0.2.2=X0++D7.textK true (ks.take p0.1)) (fun(p0:Nat×Nat×List UInt8)=>ks.length-p0.1) ((0,c',X0)) (⟨C9k _,hok6,by simp[D7.textK]⟩) (by(try simp only[go_sem])<;>(try simp(disch:=omega) [A0])<;>(try omega)) (by first|exact D0q _|exact A2 (by assumption)|exact B4 (by assumption)|simp only[Heap.Le,Heap.set,Heap.del]at* <;>grind) ?_
       rintro Ec rfl ⟨i,c,X⟩ ⟨q1,q2,q4⟩
       simp only at q1 q2 q4
       have hXl:X.length≤bs.length+2+400*K7.wtL (ks.take i):=by
         have:=A6L ks i hkk
         rw[q4,C9V];omega
       by_cases hlt:i<ks.length
       · have hkd:decide ((i:Int)<ks.length)=true:=C9R (by omega)
         have hti:(i:Int)<ks.length:=by omega
         have hm:=C9d hlt
         have hwi:=E8 ks i hlt
         have hti1:=A6K ks[i] (hkk _ hm)
         by_cases h0:i=0
         · have hg:decide ((0:Int)<i)=false:=C9S (by omega)
           have hg2: ¬(0:Int)<i:=by omega
           repeat' (first|with_reducible apply C9P|simp only[go_sem,hkd,hti,hg,hg2,A9 _ _ hlt,C2 _ _ hlt]|simp(disch:=omega) only[A0,A9,I1,A3,E8]|simp(disch:=first|omega|grind) only[A6]|intro hx_|omega)
           rename_i b8
           have hb8:=hx_
           clear hx_
           obtain⟨e8,hok8,hn8⟩:=A3d (o:=.box (C1 ks[i])) hb8 q2
           have hle8:Bs.Le (Bs.set b8 (.box (C1 ks[i]))):=A2 hn8
           have c8:(Bs.set b8 (.box (C1 ks[i]))) b8=some (.box (C1 ks[i])):=A5 _ _
           rw[e8]
           refine ih ks[i] (by have:=hsz _ hm;omega) (hkk _ hm) (fkk _ hm) b (some c) X (by omega) _ (hT3.le hle8) hok8 fun c9 hok9=>?_
           repeat' (first|with_reducible apply C9P|simp only[go_sem]|simp(disch:=omega) only[A0,A9,I1,A3,E8]|simp(disch:=first|omega|grind) only[A6]|intro hx_|omega)
           exact C3 (i+1,c9,X++D7 ks[i]) ⟨by simp only[];omega,hok9.less hle8,by simp only[];rw[q4,I1 _ _ hlt,if_pos h0];simp⟩ (by simp only[];omega) (by(try simp only[go_sem])<;>(try simp(disch:=omega) [A0])<;>(try omega)) (A5B hle8)
         · have hg:decide ((0:Int)<i)=true:=C9R (by omega)
           have hg2:(0:Int)<i:=by omega
           repeat' (first|with_reducible apply C9P|simp only[go_sem,hkd,hti,hg,hg2,A9 _ _ hlt,C2 _ _ hlt]|simp(disch:=omega) only[A0,A9,I1,A3,E8]|simp(disch:=first|omega|grind) only[A6]|intro hx_|omega)
           rename_i b8
           have hb8:=hx_
           clear hx_
           obtain⟨e8,hok8,hn8⟩:=A3d (o:=.box (C1 ks[i])) hb8 q2
           have hle8:Bs.Le (Bs.set b8 (.box (C1 ks[i]))):=A2 hn8
           have c8:(Bs.set b8 (.box (C1 ks[i]))) b8=some (.box (C1 ks[i])):=A5 _ _
           rw[e8]
           refine N3 b (some c) X ⟨#[44,32]⟩ _ hok8 (by decide) (by show _+2≤_;omega) fun c9 hok9=>?_
           rw[hz44]at hok9⊢
           have d8:=A2Q hok9 _ _ c8
           repeat' (first|with_reducible apply C9P|simp only[go_sem,d8]|simp(disch:=omega) only[A0,A9,I1,A3,E8]|simp(disch:=first|omega|grind) only[A6]|intro hx_|omega)
           refine ih ks[i] (by have:=hsz _ hm;omega) (hkk _ hm) (fkk _ hm) b (some c9) (X++[44,32]) (by rw[C9V];simp only[C9U,C9W];omega) _ (hT3.le hle8) hok9 fun c10 hok10=>?_
           repeat' (first|with_reducible apply C9P|simp only[go_sem]|simp(disch:=omega) only[A0,A9,I1,A3,E8]|simp(disch:=first|omega|grind) only[A6]|intro hx_|omega)
           exact C3 (i+1,c10,X++[44,32]++D7 ks[i]) ⟨by simp only[];omega,hok10.less hle8,by simp only[];rw[q4,I1 _ _ hlt,if_neg h0];simp⟩ (by simp only[];omega) (by(try simp only[go_sem])<;>(try simp(disch:=omega) [A0])<;>(try omega)) (A5B hle8)
       · have hkd:decide ((i:Int)<ks.length)=false:=C9S (by omega)
         rw[C9e (by omega)]at q4 hXl
         repeat' (first|with_reducible apply C9P|simp only[go_sem,hkd]|simp(disch:=omega) only[A0,A9,I1,A3,E8]|simp(disch:=first|omega|grind) only[A6]|intro hx_|omega)
         refine N3 b (some c) X ⟨#[41]⟩ _ q2 (by decide) (by show _+1≤_;omega) fun c9 hok9=>?_
         rw[hz41]at hok9⊢
         have he:X++[41]=bs++(B sg++(D7.textK true ks++[41])):=by rw[q4,hX0];simp only[D0D]
         rw[he]at hok9⊢
         repeat' (first|with_reducible apply C9P|simp only[go_sem]|simp(disch:=omega) only[A0,A9,I1,A3,E8]|simp(disch:=first|omega|grind) only[A6]|intro hx_|omega)
         exact done c9 hok9)
theorem A8d{Q}(f:Fm)(fa:FmFit f)(vo:VOk f)(H:Heap)(hT:Tabs H)(h:Q (.tuple [.str (if E4 f=true then S (D7 f)else S []),.int .i64 (if E4 f=true then 0 else 2)]) H):ACalls Tryz.prog 27 [.agg (C1 f)] H Q:=by
 refine B2 [] B3 Tryz.func27 rfl (by kernel_rfl) (C9Q (by kernel_rfl)) (by kernel_rfl) ?_
 simp only[go_sem,Tryz.results27]
 intro b1 g1
 have e1:(H.set b1 (.box (C1 f))) b1=some (.box (C1 f)):=A5 _ _
 have hle:H.Le (H.set b1 (.box (C1 f))):=A2 g1
 generalize H.set b1 (.box (C1 f))=Bs at e1 hle⊢
 have hTb:=hT.le hle
 have vc:=fun(Q:D→Heap→Prop) (H:Heap)=>Q5 (Q:=Q) f fa vo H
 cases hv:E4 f with
 |false=>
  rw[hv]at h vc
  simp only[C9f,if_false]at h
  repeat' (first|with_reducible apply C9P|simp only[go_sem,e1]|simp(disch:=omega) only[A3]|simp(disch:=first|omega|grind) only[A6]|intro hx_|with_reducible refine vc _ _ ?_|omega)
  exact D0r hle h
 |true=>
  rw[hv]at h vc
  simp only[if_true]at h
  have hwt:=A6B hv
  repeat' (first|with_reducible apply C9P|simp only[go_sem,e1]|simp(disch:=omega) only[A3]|simp(disch:=first|omega|grind) only[A6]|intro hx_|with_reducible refine vc _ _ ?_|omega)
  rename_i b4
  have h4:=hx_
  clear hx_
  have hok:BldOk Bs b4 none []:=⟨h4,fun _=>rfl,fun c e=>by cases e⟩
  have hcm:Bs.set b4 (.box [.nilp,.nilsl] (some 97))=K4 Bs b4 none []:=rfl
  rw[hcm]
  have d1:=A2Q hok _ _ e1
  repeat' (first|with_reducible apply C9P|simp only[go_sem,d1]|simp(disch:=omega) only[A3]|simp(disch:=first|omega|grind) only[A6]|intro hx_|omega)
  refine B9c _ f (C9j _) (L5 hv) fa b4 none [] (by simp only[C9W];omega) _ hTb hok fun c' hok'=>?_
  rw[D0b]at hok'⊢
  repeat' (first|with_reducible apply C9P|simp only[go_sem]|simp(disch:=omega) only[A3]|simp(disch:=first|omega|grind) only[A6]|intro hx_|with_reducible refine B0f b4 c' (D7 f) _ hok' ?_|omega)
  exact D0r hle h
end Go.Proofs.YtibphjonmikciaaGreatDoor
namespace Go.Fo
open Go Go.Av Go.Lexs Go.Lin
theorem RdS.out{H H2 G:Heap}{br sz:Nat}{es:List (List D)}{ob:Option Nat}{r:List UInt8}{bad:Bool}{rd:List D}(h:RdS H H2 br r bad)(hG:G br=none)(hb:H br=some (.box rd))(q:OutIn G sz es ob H):OutIn G sz es ob H2:=by
 refine⟨h.le q.1 hG,?_,q.2.2⟩
 cases ob with
 |none=>exact q.2.1
 |some c=>
  have hc:H c=some (.vec sz es):=q.2.1
  exact h.keep hc fun e=>by rw[e,hb]at hc;cases hc
theorem B7E{G H2:Heap}{br x b' sz:Nat}{ob:Option Nat}{es:List (List D)}{c rd:List D}{o:Av.Obj}(q:OutIn G sz es ob H2)(hbr:H2 br=some (.box rd))(hx:H2 x=none)(hG:G b'=none)(hb2:K5 (H2.set x o) ob b'=none):
  ((K5 (H2.set x o) ob).set b' (.vec sz (es++[c]))) br=some (.box rd)∧OutIn G sz (es++[c]) (some b') ((K5 (H2.set x o) ob).set b' (.vec sz (es++[c]))):=by
 have q2:=q.set hx o
 have hxb:br≠x:=fun e=>by rw[←e,hbr]at hx;cases hx
 have h1:K5 (H2.set x o) ob br=some (.box rd):=by
  cases ob with
  |none=>show (H2.set x o) br=_;rw[A8 _ hxb];exact hbr
  |some c=>
   have hc:H2 c=some (.vec sz es):=q.2.1
   have:br≠c:=fun e=>by rw[←e,hbr]at hc;cases hc
   show (Heap.del _ c) br=_
   rw[C8 this,A8 _ hxb];exact hbr
 have hne:br≠b':=fun e=>by rw[←e,h1]at hb2;cases hb2
 refine⟨by rw[A8 _ hne];exact h1,fun k p hk=>?_,A5 _ _,fun b e=>by cases e;exact hG⟩
 have:k≠b':=fun e=>by rw[e,hG]at hk;cases hk
 rw[A8 _ this]
 exact q2.le k p hk
theorem B0g{H Hp:Heap}{br sz:Nat}{es:List (List D)}{ob:Option Nat}{r:List UInt8}{bad:Bool}(q:OutIn (H.del br) sz es ob Hp)(h:Hp br=some (.box [.str (S r),.bool bad])):(H.set br (.box [.str (S r),.bool bad])).Le (K5 Hp ob):=fun k o hk=>by
 by_cases e:k=br
 ·subst e
  rw[A5]at hk
  cases ob with
  |none=>show Hp k=_;rw[h];exact hk
  |some c=>
   have hc:Hp c=some (.vec sz es):=q.2.1
   have:k≠c:=fun e=>by rw[←e,h]at hc;cases hc
   show (Heap.del _ c) k=_
   rw[C8 this,h];exact hk
 ·rw[A8 _ e]at hk
  exact q.le k o (by rw[C8 e];exact hk)
theorem B4O{H Hp:Heap}{br sz:Nat}{es:List (List D)}{ob:Option Nat}{r:List UInt8}{bad:Bool}(q:OutIn (H.del br) sz es ob Hp)(h:Hp br=some (.box [.str (S r),.bool bad])):(H.set br (.box [.str (S r),.bool bad])).Le Hp:=(B0g q h).trans (B8Y _ _)
end Go.Fo
namespace Go.Proofs.YtibphjonmikciaaGreatDoor
open Go Go.Av Go.Lexs Go.Lin Go.Fo
attribute [local irreducible] ACalls W4
theorem Tabs.hro{H H':Heap}(hT:Tabs H)(h: ∀k cs,H k=some (.ro cs)→H' k=some (.ro cs)):Tabs H':=⟨h _ _ hT.pow,let ⟨t,e⟩:=hT.syn;⟨t,h _ _ e⟩,let ⟨t,e⟩:=hT.rng;⟨t,h _ _ e⟩⟩
theorem Tabs.rd{H Hp:Heap}{br:Nat}{rd:List D}(hT:Tabs H)(hb:H br=some (.box rd))(hle:(H.del br).Le Hp):Tabs Hp:=hT.hro fun k cs hk=>hle k _ (by
 have k1:k≠br:=fun e=>by rw[e,hb]at hk;cases hk
 rw[C8 k1];exact hk)
def A7a(e:Nat):Prop:=∀(Q:D→Heap→Prop) (br:Nat) (r:List UInt8),r.length≤20000→(∀k,A6F (r.drop k))→∀(H:Heap),Tabs H→H br=some (.box [.str (S r),.bool false])→(∀H',RdS H H' br (G1 e r).2.1 (G1 e r).2.2→Q (.agg (C1 (G1 e r).1)) H')→ACalls Tryz.prog 71 [.box br 0,.int .i64 (61-e)] H Q
theorem A2R{r:List UInt8}(hx: ∀k,A6F (r.drop k))(j:Nat): ∀k,A6F ((r.drop j).drop k):=fun k=>by rw[D0Z];exact hx _
set_option maxHeartbeats 4000000 in
theorem B7F(e:Nat)(he:e≤60)(hF:A7a e){Q}(br:Nat)(r0:List UInt8)(hr0:r0.length≤20000)(hx0: ∀k,A6F (r0.drop k))(H:Heap)(hT:Tabs H)(hb:H br=some (.box [.str (S r0),.bool false]))
  (hsuf: ∀r,r.length≤20000→∃j,(G1 e r).2.1=r.drop j)
  (h: ∀H',RdS H H' br (W8 (G1 e) r0).2.1 (W8 (G1 e) r0).2.2→Q (.sl 7 (Rw C1 (W8 (G1 e) r0).1)) H'):ACalls Tryz.prog 119 [.box br 0,.int .i64 (61-e)] H Q:=by
 refine B2 [] B3 Tryz.func119 rfl (by kernel_rfl) (C9Q (by kernel_rfl)) (by kernel_rfl) ?_
 simp only[go_sem,Tryz.results119]
 have hB41:B (⟨#[41]⟩:ByteArray)= [41]:=rfl
 have hB44:B (⟨#[44,32]⟩:ByteArray)= [44,32]:=rfl
 have hs41:(⟨#[41]⟩:ByteArray).size=1:=rfl
 have hs44:(⟨#[44,32]⟩:ByteArray).size=2:=rfl
 refine A2z br ⟨#[41]⟩ r0 false H hb fun H1 s1=>?_
 rw[hB41,hs41]at s1
 unfold W8 at h
 rw[hB41]
 cases hp:pre [41] r0 with
 |true=>
  rw[hp]at h s1
  simp only[if_true]at h s1
  repeat' (first|with_reducible apply C9P|simp only[go_sem]|simp(disch:=omega) only[A3]|simp(disch:=first|omega|grind) only[C8]|intro hx_|omega)
  exact D9 (.nil 7) (D0u (h _ s1))
 |false=>
  rw[hp]at h s1
  simp only[C9f,if_false]at h s1
  obtain⟨fin,hfin⟩: ∃fin,fin=A0v (G1 e) (r0.length+1) r0 []:=⟨_,rfl⟩
  rw[←hfin]at h
  repeat' (first|with_reducible apply C9P|simp only[go_sem]|simp(disch:=omega) only[A3]|simp(disch:=first|omega|grind) only[C8]|intro hx_|omega)
  refine D1 [0,1] (fun(p:(List UInt8×List Fm×Bool)×Option Nat×Heap)=>[(5,J4 7 p.1.2.1.length p.2.1)]) (fun(p:(List UInt8×List Fm×Bool)×Option Nat×Heap)=>p.2.2) (fun(p:(List UInt8×List Fm×Bool)×Option Nat×Heap)=>p.2.2 br=some (.box [.str (S p.1.1),.bool p.1.2.2])∧OutIn (H.del br) 7 (Rw C1 p.1.2.1) p.2.1 p.2.2∧(∃j,p.1.1=r0.drop j)∧(p.1.2.2=true→fin=([],p.1.1,true))∧(p.1.2.2=false→p.1.2.1.length+p.1.1.length≤20000∧∃n,p.1.1.length+1≤n∧A0v (G1 e) n p.1.1 p.1.2.1=fin)) (fun(p:(List UInt8×List Fm×Bool)×Option Nat×Heap)=>(if p.1.2.2=true then 0 else p.1.1.length+1)) (((r0,[],false),none,H1)) (⟨s1.here,⟨fun k o hk=>by
    have k1:k≠br:=fun e=>by rw[e]at hk;simp[Heap.del]at hk
    show H1 k=some o;rw[s1.els k k1];rw[C8 k1]at hk;exact hk,rfl,fun _ e=>(by cases e)⟩,⟨0,rfl⟩,fun e=>(by cases e),fun _=>⟨by simpa using hr0,_,C9j _,hfin.symm⟩⟩) (by(try simp only[go_sem])<;>(try simp(disch:=omega) [A0])<;>(try omega)) (by first|exact D0q _|exact A2 (by assumption)|exact B4 (by assumption)|simp only[Heap.Le,Heap.set,Heap.del]at* <;>grind) ?_
  rintro Ec rfl ⟨⟨r,out,bad⟩,ob,Hp⟩ ⟨q1,q2,⟨j,q3⟩,q4,q5⟩
  simp only at q1 q2 q3 q4 q5
  cases bad with
  |true=>
   rw[q4 rfl]at h
   repeat' (first|with_reducible apply C9P|simp only[go_sem,q1]|simp(disch:=omega) only[A3]|simp(disch:=first|omega|grind) only[C8]|intro hx_|omega)
   exact D9 (.nil 7) (D0r (B4O q2 q1) (h _ (RdS.set _ _ _ _)))
  |false=>
   obtain⟨hol,n,hn,hl⟩:=q5 rfl
   obtain⟨n,rfl⟩: ∃m,n=m+1:=⟨n-1,by omega⟩
   rw[A0v]at hl
   have hrl:r.length≤20000:=by omega
   obtain⟨hsz,_⟩:=B0c e r hrl
   obtain⟨j2,hj2⟩:=hsuf r hrl
   have hTp:Tabs Hp:=hT.rd hb q2.1
   have hxr: ∀k,A6F (r.drop k):=by rw[q3];exact A2R hx0 j
   have hG:(H.del br) br=none:=by simp[Heap.del]
   repeat' (first|with_reducible apply C9P|simp only[go_sem,q1]|simp(disch:=omega) only[A3]|simp(disch:=first|omega|grind) only[C8]|intro hx_|omega)
   refine hF _ br r hrl hxr Hp hTp q1 fun H2 s2=>?_
   obtain⟨⟨f1,r1,b1⟩,hf1⟩: ∃x,x=G1 e r:=⟨_,rfl⟩
   rw[←hf1]at hl s2 hsz hj2⊢
   simp only at hl s2 hsz hj2
   have q22:=s2.out hG q1 q2
   have r12:=s2.here
   repeat' (first|with_reducible apply C9P|simp only[go_sem]|simp(disch:=omega) only[A3]|simp(disch:=first|omega|grind) only[C8]|intro hx_|omega)
   rename_i x
   have hx:=hx_
   clear hx_
   refine B5P (q22.set hx _) (by simp) (by rw[D6]) (by simp only[C9U,C9W];omega) (by simp only[C9U,C9W];omega) fun b' hb' hb2 hle=>?_
   obtain⟨r13,q23⟩:=B7E (c:=C1 f1) q22 r12 hx hb' hb2
   have hrw:Rw C1 out++[C1 f1]=Rw C1 (out++[f1]):=by simp[Rw]
   rw[hrw]at r13 q23⊢
   clear hb2 hle
   generalize (K5 (H2.set x _) ob).set b' (.vec 7 (Rw C1 (out++[f1])))=Hn at r13 q23⊢
   repeat' (first|with_reducible apply C9P|simp only[go_sem]|simp(disch:=omega) only[A3]|simp(disch:=first|omega|grind) only[C8]|intro hx_|omega)
   refine A2z br ⟨#[41]⟩ r1 b1 Hn r13 fun H3 s3=>?_
   rw[hB41,hs41]at s3
   rw[hB41]
   have q33:=s3.out hG r13 q23
   have r33:=s3.here
   cases hp1:pre [41] r1 with
   |true=>
    rw[hp1]at hl s3 r33
    simp only[if_true]at hl s3 r33
    rw[←hl]at h
    repeat' (first|with_reducible apply C9P|simp only[go_sem]|simp(disch:=omega) only[A3]|simp(disch:=first|omega|grind) only[C8]|intro hx_|omega)
    exact Fin.out (ob:=some b') (es:=Rw C1 (out++[f1])) (by rw[D6];simp) q33.2.1 (D0r (B0g q33 r33) (h _ (RdS.set _ _ _ _)))
   |false=>
    rw[hp1]at hl s3 r33
    simp only[C9f,if_false]at hl s3 r33
    have hj3: ∃k,r1=r0.drop k:=⟨j+j2,by rw[hj2,q3,D0Z]⟩
    cases b1 with
    |true=>
     simp only[if_true]at hl
     repeat' (first|with_reducible apply C9P|simp only[go_sem,r33]|simp(disch:=omega) only[A3]|simp(disch:=first|omega|grind) only[C8]|intro hx_|omega)
     refine C3 ((r1,out++[f1],true),some b',H3) ⟨r33,q33,hj3,fun _=>hl.symm,fun e=>(by cases e)⟩ (by simp only[if_true,C9f,if_false];omega) (by(try simp only[go_sem,C9V,C9U,C9W])<;>(try simp(disch:=omega) [A0])<;>(try omega)) ?_
     rw[B2h r33];exact D0q _
    |false=>
     simp only[C9f,if_false]at hl
     repeat' (first|with_reducible apply C9P|simp only[go_sem,r33]|simp(disch:=omega) only[A3]|simp(disch:=first|omega|grind) only[C8]|intro hx_|omega)
     refine A2z br ⟨#[44,32]⟩ r1 false H3 r33 fun H4 s4=>?_
     rw[hB44,hs44]at s4
     rw[hB44]
     have q44:=s4.out hG r33 q33
     have r44:=s4.here
     cases hp2:pre [44,32] r1 with
     |true=>
      rw[hp2]at hl s4 r44
      simp only[if_true]at hl s4 r44
      obtain⟨k3,hj3⟩:=hj3
      have hpl:=A1S hp2
      simp only[C9U,C9W]at hpl
      repeat' (first|with_reducible apply C9P|simp only[go_sem,r44]|simp(disch:=omega) only[A3]|simp(disch:=first|omega|grind) only[C8]|intro hx_|omega)
      refine C3 ((r1.drop 2,out++[f1],false),some b',H4) ⟨r44,q44,⟨k3+2,by rw[hj3,D0Z]⟩,fun e=>(by cases e),fun _=>⟨by simp only[C9V,C9U,C9W,C9x];omega,n,by simp only[C9x];omega,hl⟩⟩ (by simp only[C9f,if_false,C9x];omega) (by(try simp only[go_sem,C9V,C9U,C9W])<;>(try simp(disch:=omega) [A0])<;>(try omega)) ?_
      rw[B2h r44];exact D0q _
     |false=>
      rw[hp2]at hl s4 r44
      simp only[C9f,if_false]at hl s4 r44
      repeat' (first|with_reducible apply C9P|simp only[go_sem,r44]|simp(disch:=omega) only[A3]|simp(disch:=first|omega|grind) only[C8]|intro hx_|omega)
      exact C3 ((r1,out++[f1],true),some b',H4.set br (.box [.str (S r1),.bool true])) ⟨A5 _ _,(RdS.set H4 br r1 true).out hG r44 q44,hj3,fun _=>hl.symm,fun e=>(by cases e)⟩ (by simp only[if_true,C9f,if_false];omega) (by(try simp only[go_sem,C9V,C9U,C9W])<;>(try simp(disch:=omega) [A0])<;>(try omega)) (D0q _)
end Go.Proofs.YtibphjonmikciaaGreatDoor
namespace Go.Fo
open Go Go.Av Go.Lexs Go.Lin
def A4w(f:Fm):Bool:=G7 (fun g=>D5 g&&decide (g.ks.length≤1000)) f
theorem V8: ∀f:Fm,A4w f=true→G7 D5 f=true∧FmFit f:=by
 intro f
 induction f using P2 with
 |h o n l s ks ih=>
  intro h
  unfold A4w at h
  rw[A2L,C9c,C9c]at h
  obtain⟨⟨h1,h2⟩,h3⟩:=h
  have h2:=C9Q h2
  have h3:=C90.1 h3
  have h2:ks.length≤1000:=h2
  have hk: ∀k∈ks,G7 D5 k=true∧FmFit k:=fun k hk=>ih k hk (h3 k hk)
  have ha:G7 D5 (.mk o n l s ks)=true:=by
   rw[A2L,C9c]
   exact⟨h1,C90.2 fun k hm=>(hk k hm).1⟩
  refine⟨ha,?_⟩
  cases B6J h1 with
  |con n h=>exact .mk _ _ _ _ _ (by simp[W0]) (by rcases h with rfl|rfl<;>simp[W0]) A1P (by decide) (by simp) (by simp)
  |lin l h hp=>
   have ok:=L9 h
   refine A1t ⟨by have:=ok.len;omega,fun t ht=>?_,fun t ht=>?_,?_⟩
   ·have:=A2u (M7 ok.t t ht).1;omega
   ·have:=(M7 ok.t t ht).2.2;unfold W0;omega
   ·have:=ok.k;unfold W0;omega
  |var s h=>exact .mk _ _ _ _ _ (by simp[W0]) (by simp[W0]) A1P (by have:=A2u (A58 h);omega) (by simp) (by simp)
  |not k=>exact R9 (by simp[W0]) (by simp) fun q hq=>(hk q hq).2
  |and ks=>exact R9 (by simp[W0]) (by omega) fun q hq=>(hk q hq).2
  |or ks=>exact R9 (by simp[W0]) (by omega) fun q hq=>(hk q hq).2
theorem C6A{P:Program}{K:Env→Heap→Prop}{E:Env}{H:Heap}{gs:List (Option Nat)}{ops:List Oper}(E0:Env)(H0:Heap)(hw:A1C E0 H0 E H)(h:Av.wpOps P gs K ops E0 H0):A4S P gs ops K E H (some .wk):=⟨E0,H0,hw,h⟩
theorem B4P{H0:Heap}{E E':Env}{x b sz:Nat}{es:List (List D)}{cs cs':List D}(hS:Av.Sub E' E)(hx:H0 x=none)(hne:b≠x)(hl:cs.length=cs'.length)(hz: ∀(i:Nat) d d',cs[i]? =some d→cs'[i]? =some d'→Fz x sz es d d'):
  A1C E' (H0.set b (.box cs')) E ((H0.set x (.vec sz es)).set b (.box cs)):=by
 refine A4R (b:=x) (sz:=sz) (es:=es) (by rw[A8 _ hne.symm];exact A5 _ _) (B5Q hS) (fun k o' ho=>?_)
 by_cases hk:k=b
 ·subst hk
  rw[A5]at ho
  cases ho
  exact⟨hne,_,A5 _ _,.box _ _ _ hl hz⟩
 ·rw[A8 _ hk]at ho
  have hkx:k≠x:=fun e=>by rw[e,hx]at ho;cases ho
  exact⟨hkx,o',by rw[A8 _ hk,A8 _ hkx];exact ho,.same _⟩
theorem A8e{G H:Heap}{b sz:Nat}{es:List (List D)}{ob:Option Nat}{rd:List D}(q:OutIn G sz es ob H)(hG:G b=none)(hb:H b=some (.box rd))(X:Av.Obj):OutIn G sz es ob (H.set b X):=by
 refine⟨fun k o hk=>?_,?_,q.2.2⟩
 ·have:k≠b:=fun e=>by rw[e,hG]at hk;cases hk
  rw[A8 _ this];exact q.1 k o hk
 ·cases ob with
  |none=>exact q.2.1
  |some c=>
   have hc:H c=some (.vec sz es):=q.2.1
   have:c≠b:=fun e=>by rw[e,hb]at hc;cases hc
   show (H.set b X) c=_
   rw[A8 _ this];exact hc
theorem B7G(a b:Fm):O7 (C1 a) 0 (C1 b)=C1 b:=by rw[N2 a];exact B8u _ _ _ _ _ _ _ _
theorem A7b{G H2:Heap}{b7 y b' sz:Nat}{ob:Option Nat}{es:List (List D)}{c rd:List D}{o:Av.Obj}(q:OutIn G sz es ob H2)(hb7:H2 b7=some (.box rd))(hy:H2 y=none)(hG:G b'=none)(hb2:K5 (H2.set y o) ob b'=none):
  ((K5 (H2.set y o) ob).set b' (.vec sz (es++[c]))) b7=some (.box rd)∧OutIn G sz (es++[c]) (some b') ((K5 (H2.set y o) ob).set b' (.vec sz (es++[c]))):=B7E q hb7 hy hG hb2
def A4f:Fm:=fxL (-1) true
theorem A1w:A4w fxF=true∧A4w fxP=true∧A4w fxN=true∧A4w fxA=true∧A4w fxS=true∧A4w A4F=true∧A4w fxV=true∧A4w (A0z [fxF,normF fxP true])=true∧A4w (A0z [fxF,normF fxF true])=true∧A4w A4f=true:=by decide+kernel
theorem B0h:K7 fxF≤1000∧K7 fxP≤1000∧K7 fxN≤1000∧K7 fxA≤1000:=by decide+kernel
theorem B7H:upS (D3 fxF++C6 fxF)= [nB,nX]:=by decide+kernel
theorem A6M:C6 fxF= [nB]∧nX≠nB∧H8 (B nX)=true:=by decide+kernel
theorem C6B:nB∈I8 (C6 fxF)∧nX∉I8 (C6 fxF):=by
 rw[F7,F7,A6M.1]
 exact⟨by simp,by simp[A6M.2.1]⟩
theorem A8f:meetL (D3.intsL [fxF,fxP]) (C6.boolsL [fxF,fxP])=false∧(upS (D3.intsL [fxF,fxP])).length+(upS (C6.boolsL [fxF,fxP])).length≤12∧meetL (D3.intsL [fxF,fxF]) (C6.boolsL [fxF,fxF])=false∧(upS (D3.intsL [fxF,fxF])).length+(upS (C6.boolsL [fxF,fxF])).length≤12:=by decide+kernel
end Go.Fo
namespace Go.Proofs.YtibphjonmikciaaGreatDoor
open Go Go.Av Go.Lexs Go.Lin Go.Fo
attribute [local irreducible] ACalls W4
theorem B7I{Q}(f:Fm)(fa:FmFit f)(vo:VOk f)(hv:E4 f=true)(b:Bool)(hs:V5 f []=some b)(H:Heap)(h:Q (.tuple [.bool b,.int .i64 0]) H):ACalls Tryz.prog 31 [.agg (C1 f)] H Q:=by
 refine B2 [] B3 Tryz.func31 rfl (by kernel_rfl) (C9Q (by kernel_rfl)) (by kernel_rfl) ?_
 simp only[go_sem,Tryz.results31]
 have vc:=fun(Q:D→Heap→Prop) (H:Heap)=>Q5 (Q:=Q) f fa vo H
 rw[hv]at vc
 repeat' (first|with_reducible apply C9P|simp only[go_sem]|simp(disch:=omega) only[A3]|intro hx_|with_reducible refine vc _ _ ?_|omega)
 refine A0P 3 ?_
 refine A3b f (L5 hv) fa [] (by simp) b hs _ ?_
 repeat' (first|with_reducible apply C9P|simp only[go_sem]|simp(disch:=omega) only[A3]|intro hx_|omega)
 exact D0r (A2 (by assumption)) h
theorem B9d{Q}(f g:Fm)(fa:FmFit f)(ga:FmFit g)(vf:VOk f)(vg:VOk g)(hf:E4 f=true)(hg:E4 g=true)(hm:meetL (D3.intsL [f,g]) (C6.boolsL [f,g])=false)(hl:(upS (D3.intsL [f,g])).length+(upS (C6.boolsL [f,g])).length≤12)
  (b:Bool) (hs:V5 (.mk 5 0 nilL D2 [f,normF g true]) []=some b) (hn:G7 D5 (.mk 5 0 nilL D2 [f,normF g true])=true) (H:Heap) (h:Q (.tuple [.bool (!b),.int .i64 0]) H):ACalls Tryz.prog 37 [.agg (C1 f),.agg (C1 g)] H Q:=by
 refine B2 [] B3 Tryz.func37 rfl (by kernel_rfl) (C9Q (by kernel_rfl)) (by kernel_rfl) ?_
 simp only[go_sem,Tryz.results37]
 intro b2 h2 b3 h3
 simp only[A4]at h3
 have n23:b2≠b3:=fun e=>h3.1 e.symm
 have c2:((H.set b2 (.box (C1 f))).set b3 (.box (C1 g))) b2=some (.box (C1 f)):=by rw[A8 _ n23,A5]
 have c3:((H.set b2 (.box (C1 f))).set b3 (.box (C1 g))) b3=some (.box (C1 g)):=A5 _ _
 have hle:H.Le ((H.set b2 (.box (C1 f))).set b3 (.box (C1 g))):=(A2 h2).trans (A2 (by simp only[A4];exact h3))
 generalize (H.set b2 (.box (C1 f))).set b3 (.box (C1 g))=Bs at c2 c3 hle⊢
 repeat' (first|with_reducible apply C9P|simp only[go_sem,c2,c3]|simp(disch:=omega) only[A3]|(intro hx_;try simp only[A4]at hx_)|with_reducible refine C0y f g fa ga vf vg hf hg hm hl _ ?_|with_reducible refine A7Y f g (L5 hf) fa (L5 hg) ga b hs hn _ ?_|omega)
 exact D0r hle h
theorem B9e{Q}(f:Fm)(fa:FmFit f)(vf:VOk f)(hf:E4 f=true)(hm:meetL (D3.intsL [f,f]) (C6.boolsL [f,f])=false)(hl:(upS (D3.intsL [f,f])).length+(upS (C6.boolsL [f,f])).length≤12)
  (hs:V5 (.mk 5 0 nilL D2 [f,normF f true]) []=some false) (hn:G7 D5 (.mk 5 0 nilL D2 [f,normF f true])=true) (H:Heap) (h:Q (.tuple [.bool true,.int .i64 0]) H):ACalls Tryz.prog 38 [.agg (C1 f),.agg (C1 f)] H Q:=by
 refine B2 [] B3 Tryz.func38 rfl (by kernel_rfl) (C9Q (by kernel_rfl)) (by kernel_rfl) ?_
 simp only[go_sem,Tryz.results38]
 intro b2 h2 b3 h3
 simp only[A4]at h3
 have n23:b2≠b3:=fun e=>h3.1 e.symm
 have c2:((H.set b2 (.box (C1 f))).set b3 (.box (C1 f))) b2=some (.box (C1 f)):=by rw[A8 _ n23,A5]
 have c3:((H.set b2 (.box (C1 f))).set b3 (.box (C1 f))) b3=some (.box (C1 f)):=A5 _ _
 have hle:H.Le ((H.set b2 (.box (C1 f))).set b3 (.box (C1 f))):=(A2 h2).trans (A2 (by simp only[A4];exact h3))
 generalize (H.set b2 (.box (C1 f))).set b3 (.box (C1 f))=Bs at c2 c3 hle⊢
 have fc:=fun(Q:D→Heap→Prop) (H:Heap)=>A7Y (Q:=Q) f f (L5 hf) fa (L5 hf) fa false hs hn H
 simp only[D0o]at fc
 repeat' (first|with_reducible apply C9P|simp only[go_sem,c2,c3]|simp(disch:=omega) only[A3]|(intro hx_;try simp only[A4]at hx_)|with_reducible refine C0y f f fa fa vf vf hf hf hm hl _ ?_|with_reducible refine fc _ _ ?_|omega)
 exact D0r hle h
theorem B0i{Q}(so g:Fm)(b7:Nat)(H:Heap)(h7:H b7=some (.box (C1 so)))(h:Q (.agg (C1 (A0z [so,g]))) H):ACalls Tryz.prog 74 [.agg (C1 g),.box b7 0] H Q:=by
 refine B2 [] B3 Tryz.func74 rfl (by kernel_rfl) (C9Q (by kernel_rfl)) (by kernel_rfl) ?_
 simp only[go_sem,Tryz.results74]
 intro b2 h2 b3 h3
 simp only[A4]at h3
 have n23:b2≠b3:=fun e=>h3.1 e.symm
 have n72:b7≠b2:=fun e=>by rw[←e,h7]at h2;cases h2
 have n73:b7≠b3:=fun e=>by rw[←e,h7]at h3;cases h3.2
 obtain⟨Z,hZ⟩: ∃Z:List D,Z= [.int .i64 0,.int .i64 0,.nilsl,.int .i64 0,.bool false,.str ⟨#[]⟩,.nilsl]:=⟨_,rfl⟩
 rw[←hZ]
 have c2:((H.set b2 (.box (C1 g))).set b3 (.box Z)) b2=some (.box (C1 g)):=by rw[A8 _ n23,A5]
 have c3:((H.set b2 (.box (C1 g))).set b3 (.box Z)) b3=some (.box Z):=A5 _ _
 have c7:((H.set b2 (.box (C1 g))).set b3 (.box Z)) b7=some (.box (C1 so)):=by rw[A8 _ n73,A8 _ n72];exact h7
 have hle:H.Le ((H.set b2 (.box (C1 g))).set b3 (.box Z)):=(A2 h2).trans (A2 (by simp only[A4];exact h3))
 generalize (H.set b2 (.box (C1 g))).set b3 (.box Z)=Bs at c2 c3 c7 hle⊢
 rw[hZ]at c3
 repeat' (first|with_reducible apply C9P|simp only[go_sem,c2,c3,c7]|simp(disch:=omega) only[A3]|simp(disch:=first|omega|grind) only[A6]|(intro hx_;try simp only[A4]at hx_)|omega)
 rename_i x
 have hx:=hx_
 clear hx_
 exact B1t (es:=[C1 so,C1 g]) [so,g] rfl rfl hle h3.2 c3 hx _ h
theorem B7J{Q}(so:Fm)(hf:G7 D5 so=true)(fa:FmFit so)(more:List LinV)(hm:more.length≤1000)(b:Bool)(hs:V5 so more=some b)(b7:Nat)(H:Heap)(h7:H b7=some (.box (C1 so)))(h:Q (.bool b) H):ACalls Tryz.prog 77 [.sl 3 (Rw E3 more),.box b7 0] H Q:=by
 refine B2 [] B3 Tryz.func77 rfl (by kernel_rfl) (C9Q (by kernel_rfl)) (by kernel_rfl) ?_
 simp only[go_sem,Tryz.results77]
 repeat' (first|with_reducible apply C9P|simp only[go_sem,h7]|simp(disch:=omega) only[A3]|intro hx_|with_reducible refine A3b so hf fa more hm b hs _ ?_|omega)
 exact D0u h
abbrev vW:List D:=[.int .i64 3,.int .i64 0,.nilsl,.int .i64 0,.bool false,.str nB,.nilsl]
abbrev noW(d:D):List D:=[.int .i64 4,.int .i64 0,.nilsl,.int .i64 0,.bool false,.str ⟨#[]⟩,d]
theorem C3I:NilR (.agg (noW (.sl 7 [vW]))) (.agg (C1 A4F)):=by
 rw[show C1 A4F= [.int .i64 4,.int .i64 0,.sl 2 [],.int .i64 0,.bool false,.str ⟨#[]⟩,.sl 7 (Rw C1 [fxV])]from N2 _]
 refine B1T (.nil 2) (.sl 7 _ _ rfl (fun i e e' h1 h2=>?_) (fun i e e' j d d' h1 h2 h3 h4=>?_))
 ·match i with
  |0=>cases h1;cases h2;rfl
  |i+1=>cases h1
 ·match i with
  |0=>
   cases h1;cases h2
   rw[show C1 fxV= [.int .i64 3,.int .i64 0,.sl 2 [],.int .i64 0,.bool false,.str nB,.sl 7 []]from N2 _]at h4
   match j with
   |0=>cases h3;cases h4;exact .same _
   |1=>cases h3;cases h4;exact .same _
   |2=>cases h3;cases h4;exact .nil 2
   |3=>cases h3;cases h4;exact .same _
   |4=>cases h3;cases h4;exact .same _
   |5=>cases h3;cases h4;exact .same _
   |6=>cases h3;cases h4;exact .nil 7
   |j+7=>cases h3
  |i+1=>cases h1
theorem C0z{Q}(so:Fm)(b7:Nat)(H:Heap)(h7:H b7=some (.box (C1 so)))(h:Q (.agg (C1 (A0z [so,A4F]))) H):ACalls Tryz.prog 74 [.agg (noW (.sl 7 [vW])),.box b7 0] H Q:=by
 refine Z8 (args':=[.agg (C1 A4F),.box b7 0]) rfl (fun i d d' h1 h2=>?_) (B0i so A4F b7 H h7 h)
 match i with
 |0=>cases h1;cases h2;exact C3I
 |1=>cases h1;cases h2;exact .same _
 |i+2=>cases h1
theorem J6:E4 fxF=true∧FmFit fxF∧VOk fxF∧G7 D5 fxF=true:=⟨P9.1,(V8 _ A1w.1).2,.inl (by have:=B0h.1;omega),(V8 _ A1w.1).1⟩
def C8I:Nat→Fm
 |0=>fxF
 |1=>fxS
 |_=>A0z [fxS,A4f]
set_option maxHeartbeats 4000000 in
theorem B7K{Q}(H:Heap)(h:Q (.tuple [.sl 2 (Rw vlC fxVals),.int .i64 0]) H):ACalls Tryz.prog 32 [.agg (C1 fxF)] H Q:=by
 refine B2 [(15,.wk)] B3 Tryz.func32 rfl (by kernel_rfl) (C9Q (by kernel_rfl)) (by kernel_rfl) ?_
 simp only[go_sem,Tryz.results32]
 obtain⟨hv,fa,vo,hal⟩:=J6
 have vc:=fun(Q:D→Heap→Prop) (H:Heap)=>Q5 (Q:=Q) fxF fa vo H
 rw[hv]at vc
 intro b1 h1
 have e1:(H.set b1 (.box (C1 fxF))) b1=some (.box (C1 fxF)):=A5 _ _
 have hle:H.Le (H.set b1 (.box (C1 fxF))):=A2 h1
 have hsol:=A4G.1
 have hnear:=B9Z
 have hsolS:=A4G.2.2.2.2
 have hin:=C6B
 have hnm:=B7H
 have hfit:=A1w
 generalize hF:fxF=F at e1 hle vc hv fa vo hal hsol hin hnm⊢
 generalize H.set b1 (.box (C1 F))=Bs at e1 hle⊢
 repeat' (first|with_reducible apply C9P|simp only[go_sem,e1]|simp(disch:=omega) only[A0,A9,A3]|simp(disch:=first|omega|grind) only[A6]|(intro hx_;try simp only[A4]at hx_)|with_reducible refine vc _ _ ?_|omega)
 refine A0P 3 ?_
 refine A3b F hal fa [] (by simp) true hsol _ ?_
 repeat' (first|with_reducible apply C9P|simp only[go_sem,e1]|simp(disch:=omega) only[A0,A9,A3]|simp(disch:=first|omega|grind) only[A6]|(intro hx_;try simp only[A4]at hx_)|omega)
 rename_i x
 have hx:=hx_
 clear hx_
 refine A3a hx F fa rfl ?_
 repeat' (first|with_reducible apply C9P|simp only[go_sem,e1]|simp(disch:=omega) only[A0,A9,A3]|simp(disch:=first|omega|grind) only[A6]|(intro hx_;try simp only[A4]at hx_)|omega)
 rename_i b7
 have h7:=hx_
 clear hx_
 have n17:b1≠b7:=fun e=>by rw[←e,e1]at h7;cases h7
 have c7:(Bs.set b7 (.box (C1 F))) b7=some (.box (C1 F)):=A5 _ _
 have hle7:H.Le (Bs.set b7 (.box (C1 F))):=hle.trans (A2 h7)
 have hH7:H b7=none:=hle.none h7
 generalize Bs.set b7 (.box (C1 F))=Cs at c7 hle7⊢
 refine B64 _ _ (A1K _) _ fun K hK hKx=>?_
 have hKl:K.length≤2:=by
  have:K.length= [nB,nX].length:=((List.perm_ext_iff_of_nodup hK (by decide+kernel)).2 fun y=>by rw[hKx,F7,F7,←C9p,←S2,hnm]).length_eq
  have hl2: [nB,nX].length=2:=rfl
  omega
 repeat' (first|with_reducible apply C9P|simp only[go_sem]|simp(disch:=omega) only[A0,A9,A3]|simp(disch:=first|omega|grind) only[A6]|(intro hx_;try simp only[A4]at hx_)|omega)
 refine A8X _ _ fun bk hbk=>?_
 repeat' (first|with_reducible apply C9P|simp only[go_sem]|simp(disch:=omega) only[A0,A9,A3]|simp(disch:=first|omega|grind) only[A6]|(intro hx_;try simp only[A4]at hx_)|omega)
 refine A8Y bk tt K (by omega) (fun s hs=>by
  have:s∈[nB,nX]:=by rw[←hnm,S2,C9p,←F7,←F7 (C6 F),←hKx];exact hs
  simp only[C9r,C9s,or_false]at this
  rcases this with rfl|rfl<;>decide) _ (A5 _ _) fun v hv2 hm=>?_
 have ev:v= [nB,nX]:=by
  rw[←hnm]
  exact A5k hv2 (A8K _) fun s=>by rw[hm,hKx,F7,F7,S2,C9p]
 rw[ev]
 have nk7:b7≠bk:=fun e=>by rw[←e,c7]at hbk;cases hbk
 have d7:(Cs.set bk (.box [.fm (C9 tt K)])) b7=some (.box (C1 F)):=by rw[A8 _ nk7];exact c7
 have hled:H.Le (Cs.set bk (.box [.fm (C9 tt K)])):=hle7.trans (A2 hbk)
 generalize Cs.set bk (.box [.fm (C9 tt K)])=Ds at d7 hled⊢
 have hlen:(Rw j7 [nB,nX]).length=2:=rfl
 repeat' (first|with_reducible apply C9P|simp only[go_sem,hlen]|simp(disch:=omega) only[A0,A9,A3]|simp(disch:=first|omega|grind) only[A6]|(intro hx_;try simp only[A4]at hx_)|omega)
 refine D1 [5,7,8,31,32] (fun(p:Nat×Option Nat×Heap)=>[(33,.int .i64 p.1),(6,J4 2 p.1 p.2.1)]) (fun(p:Nat×Option Nat×Heap)=>p.2.2) (fun(p:Nat×Option Nat×Heap)=>p.1≤2∧p.2.2 b7=some (.box (C1 (C8I p.1)))∧OutIn H 2 (Rw vlC (fxVals.take p.1)) p.2.1 p.2.2) (fun(p:Nat×Option Nat×Heap)=>2-p.1) ((0,none,Ds)) (⟨C9k _,by show Ds b7=_;rw[d7,←hF];rfl,hled,rfl,fun _ e=>(by cases e)⟩) (by(try simp only[go_sem])<;>(try simp(disch:=omega) [A0])<;>(try omega)) (by first|exact D0q _|exact A2 (by assumption)|exact B4 (by assumption)|simp only[Heap.Le,Heap.set,Heap.del]at* <;>grind) ?_
 rintro Ec rfl ⟨k,ob,Hp⟩ ⟨hk,q7,qo⟩
 simp only at hk q7 qo
 match k,hk,q7,qo with
 |0,hk,q7,qo=>
  have r0:(Rw j7 [nB,nX]).getD 0 []= [.str nB]:=rfl
  repeat' (first|with_reducible apply C9P|simp only[go_sem,r0,q7,A2K,if_pos hin.1]|simp(disch:=omega) only[A0,A9,A3]|simp(disch:=first|omega|grind) only[A6]|(intro hx_;try simp only[A4]at hx_)|omega)
  rename_i b11 h11 x hx b12
  have h12:=hx_
  clear hx_
  have c7: ∀X:Av.Obj,((Hp.set b11 (.box [.str nB,.int .i64 0])).set b12 X) b7=some (.box (C1 fxF)):=fun X=>by
   rw[A8 _ (fun e=>by rw[←e,q7]at h12;cases h12.2.2),A8 _ (fun e=>by rw[←e,q7]at h11;cases h11)];exact q7
  have c11: ∀X:Av.Obj,((Hp.set b11 (.box [.str nB,.int .i64 0])).set b12 X) b11=some (.box [.str nB,.int .i64 0]):=fun X=>by
   rw[A8 _ (fun e=>by rw[e]at h12;exact h12.2.1 rfl)];exact A5 _ _
  have qo2:=(qo.set h11 (.box [.str nB,.int .i64 0])).set (b:=b12) (A4.2 ⟨h12.2.1,h12.2.2⟩)
  refine C6A [(5,.fm (C9 tt (I8 (C6 F)))),(7,.box b7 0),(8,.fn (.func 74) [] [.box b7 0]),(31,.sl 1 (Rw j7 [nB,nX])),(32,.int .i64 2),(33,.int .i64 0),(6,J4 2 0 ob),(10,.str nB),(11,.box b11 0),(12,.box b12 0)] ((Hp.set b11 (.box [.str nB,.int .i64 0])).set b12 (.box (noW (.sl 7 [vW])))) (B4P (cs:=noW (.vec x 7 0 1)) (by(try simp only[go_sem])<;>(try simp(disch:=omega) [A0])<;>(try omega)) (A4.2 hx) h12.1 rfl (fun i d d' h1 h2=>?_)) ?_
  ·match i with
   |0=>cases h1;cases h2;exact .same _
   |1=>cases h1;cases h2;exact .same _
   |2=>cases h1;cases h2;exact .same _
   |3=>cases h1;cases h2;exact .same _
   |4=>cases h1;cases h2;exact .same _
   |5=>cases h1;cases h2;exact .same _
   |6=>cases h1;cases h2;exact .all
   |i+7=>cases h1
  have d7:=c7 (.box (noW (.sl 7 [vW])))
  have d11:=c11 (.box (noW (.sl 7 [vW])))
  have d12:((Hp.set b11 (.box [.str nB,.int .i64 0])).set b12 (.box (noW (.sl 7 [vW])))) b12=some (.box (noW (.sl 7 [vW]))):=A5 _ _
  have qo3:=qo2 (.box (noW (.sl 7 [vW])))
  have n711:b7≠b11:=fun e=>by rw[←e,q7]at h11;cases h11
  generalize (Hp.set b11 (.box [.str nB,.int .i64 0])).set b12 (.box (noW (.sl 7 [vW])))=Gs at d7 d11 d12 qo3⊢
  repeat' (first|with_reducible apply C9P|simp only[go_sem,d12]|simp(disch:=omega) only[A0,A9,A3]|simp(disch:=first|omega|grind) only[A6]|(intro hx_;try simp only[A4]at hx_)|with_reducible refine C0z fxF b7 Gs d7 ?_|omega)
  refine A0P 3 ?_
  refine A3b fxS (V8 _ hfit.2.2.2.2.1).1 (V8 _ hfit.2.2.2.2.1).2 [] (by simp) true hsolS _ ?_
  repeat' (first|with_reducible apply C9P|simp only[go_sem,d7,d11,d12,B7G]|simp(disch:=omega) only[A0,A9,A3]|simp(disch:=first|omega|grind) only[A6]|(intro hx_;try simp only[A4]at hx_)|with_reducible refine C0z fxF b7 Gs d7 ?_|omega)
  rename_i y
  have hy:(Gs.set b7 (.box (C1 (A0z [fxF,A4F])))) y=none:=A4.2 hx_
  clear hx_
  have f7:(Gs.set b7 (.box (C1 (A0z [fxF,A4F])))) b7=some (.box (C1 (A0z [fxF,A4F]))):=A5 _ _
  have qo4:=A8e qo3 hH7 d7 (.box (C1 (A0z [fxF,A4F])))
  generalize Gs.set b7 (.box (C1 (A0z [fxF,A4F])))=Gt at f7 hy qo4⊢
  refine B5P (qo4.set hy _) (by simp) rfl (by simp) (by simp) fun b' hb' hb2 hle'=>?_
  obtain⟨g7,qo5⟩:=A7b (c:=[.str nB,.int .i64 0]) qo4 f7 hy hb' hb2
  repeat' (first|with_reducible apply C9P|simp only[go_sem]|simp(disch:=omega) only[A0,A9,A3]|simp(disch:=first|omega|grind) only[A6]|(intro hx_;try simp only[A4]at hx_)|omega)
  exact C3 (1,some b',_) ⟨by simp,g7,qo5⟩ (by simp) (by(try simp only[go_sem])<;>(try simp(disch:=omega) [A0])<;>(try omega)) (D0q _)
 |1,hk,q7,qo=>
  have r1:(Rw j7 [nB,nX]).getD 1 []= [.str nX]:=rfl
  repeat' (first|with_reducible apply C9P|simp only[go_sem,r1,q7,A2K,if_neg hin.2]|simp(disch:=omega) only[A0,A9,A3]|simp(disch:=first|omega|grind) only[A6]|(intro hx_;try simp only[A4]at hx_)|omega)
  rename_i b11
  have h11:=hx_
  clear hx_
  have n711:b7≠b11:=fun e=>by rw[←e,q7]at h11;cases h11
  have d7:(Hp.set b11 (.box [.str nX,.int .i64 0])) b7=some (.box (C1 fxS)):=by rw[A8 _ n711];exact q7
  have d11:(Hp.set b11 (.box [.str nX,.int .i64 0])) b11=some (.box [.str nX,.int .i64 0]):=A5 _ _
  have qo3:=qo.set h11 (.box [.str nX,.int .i64 0])
  generalize Hp.set b11 (.box [.str nX,.int .i64 0])=Gs at d7 d11 qo3⊢
  refine B36 (fun more=>V5 fxS more) nX A6M.2.2 77 [.box b7 0] Gs (fun more bb hmb hval hml H' Q hGH hq=>B7J fxS (V8 _ hfit.2.2.2.2.1).1 (V8 _ hfit.2.2.2.2.1).2 more (by omega) bb hmb b7 H' (hGH _ _ d7) hq) 1 hnear ?_
  repeat' (first|with_reducible apply C9P|simp only[go_sem,d11]|simp(disch:=omega) only[A0,A9,A3]|simp(disch:=first|omega|grind) only[A6]|(intro hx_;try simp only[A4]at hx_)|omega)
  rename_i z
  have hz:=hx_
  clear hx_
  have hH11:H b11=none:=qo.1.none h11
  have f7:(Gs.set b11 (.box [.str nX,.int .i64 1])) b7=some (.box (C1 fxS)):=by rw[A8 _ n711];exact d7
  have f11:(Gs.set b11 (.box [.str nX,.int .i64 1])) b11=some (.box [.str nX,.int .i64 1]):=A5 _ _
  have qo4:=A8e qo3 hH11 d11 (.box [.str nX,.int .i64 1])
  refine A4x (A5 _ _) rfl ?_
  rw[E7 (A4.2 hz)]
  generalize Gs.set b11 (.box [.str nX,.int .i64 1])=Gt at f7 f11 qo4⊢
  refine A4E ⟨[⟨nX,1⟩],-1,true⟩ _ ?_
  repeat' (first|with_reducible apply C9P|simp only[go_sem]|simp(disch:=omega) only[A0,A9,A3]|simp(disch:=first|omega|grind) only[A6]|(intro hx_;try simp only[A4]at hx_)|omega)
  refine B0i fxS A4f b7 Gt f7 ?_
  repeat' (first|with_reducible apply C9P|simp only[go_sem,f7,f11,B7G]|simp(disch:=omega) only[A0,A9,A3]|simp(disch:=first|omega|grind) only[A6]|(intro hx_;try simp only[A4]at hx_)|omega)
  rename_i y
  have hy:(Gt.set b7 (.box (C1 (A0z [fxS,A4f])))) y=none:=A4.2 hx_
  clear hx_
  have g7:(Gt.set b7 (.box (C1 (A0z [fxS,A4f])))) b7=some (.box (C1 (A0z [fxS,A4f]))):=A5 _ _
  have qo5:=A8e qo4 hH7 f7 (.box (C1 (A0z [fxS,A4f])))
  generalize Gt.set b7 (.box (C1 (A0z [fxS,A4f])))=Gu at g7 hy qo5⊢
  refine B5P (qo5.set hy _) (by simp) rfl (by simp) (by simp) fun b' hb' hb2 hle'=>?_
  obtain⟨k7,qo6⟩:=A7b (c:=[.str nX,.int .i64 1]) qo5 g7 hy hb' hb2
  repeat' (first|with_reducible apply C9P|simp only[go_sem]|simp(disch:=omega) only[A0,A9,A3]|simp(disch:=first|omega|grind) only[A6]|(intro hx_;try simp only[A4]at hx_)|omega)
  exact C3 (2,some b',_) ⟨by simp,k7,qo6⟩ (by simp) (by(try simp only[go_sem])<;>(try simp(disch:=omega) [A0])<;>(try omega)) (D0q _)
 |2,hk,q7,qo=>
  repeat' (first|with_reducible apply C9P|simp only[go_sem]|simp(disch:=omega) only[A0,A9,A3]|simp(disch:=first|omega|grind) only[A6]|(intro hx_;try simp only[A4]at hx_)|omega)
  have e2:fxVals.take 2=fxVals:=rfl
  rw[e2]at qo
  refine A6S (n:=2) rfl qo.2.1 (D0r qo.le h)
 |k+3,hk,_,_=>omega
end Go.Proofs.YtibphjonmikciaaGreatDoor
namespace Go.Av
theorem A13{b sz:Nat}{es:List (List D)}{d:D}{H H':Heap}{Q:D→Heap→Prop}(hb:H b=some (.vec sz es))
  (hH: ∀k o',H' k=some o'→k≠b∧∃o,H k=some o∧OFz b sz es o o') (h:Fin Q d H'):Fin Q d H:=by
 unfold Fin at h⊢
 obtain⟨H1,d1,h1,h2⟩:=h
 refine⟨H1,d1,Shift.trans (fun w v hr hs=>?_) h1,h2⟩
 have hheld: ∀k,H.held k=false→H'.held k=false:=fun k hk=>by
  cases ho:H' k with
  |none=>exact G8 ho
  |some o'=>
   obtain⟨_,o,h1,h2⟩:=hH k o' ho
   rw[I6 h1]at hk
   rw[I6 ho]
   cases h2<;>exact hk
 have hR: ∀{d d':D} {v:Value},Fz b sz es d d'→R w H d v→R w H' d' v:=fun hf hr=>(hf.R hs hb hr).mono (D0x _ _) fun k _ hk=>by
  by_cases hkb:k=b
  ·subst hkb
   cases ho:H' k with
   |none=>exact G8 ho
   |some o'=>exact absurd rfl (hH k o' ho).1
  ·refine hheld k ?_
   rw[←A0E (H:=H) (H':=H.del b) (k:=k) (by unfold Heap.del;rw[if_neg hkb])]
   exact hk
 refine⟨hR (.same d) hr,fun k o' ho=>?_,hheld⟩
 obtain⟨_,o,h1,h2⟩:=hH k o' ho
 have hok:=hs k o h1
 cases h2 with
 |same=>exact hok.mono (D0x H w) (fun k _ hk=>hheld k hk) rfl
 |box cs cs' Z hl hf=>
  obtain⟨c,T,lo,hi,k1,k2,k3,k4,k5⟩:=hok
  refine⟨c,T,lo,hi,k1,k2,by omega,fun j d' hd'=>?_,k5⟩
  have hj:=(C9Z.1 hd').1
  have hd:cs[j]? =some (cs[j]'(by omega)):=C9g _
  have hfz:=hf j _ _ hd hd'
  exact⟨hfz.one (k4 j _ hd).1,hR hfz (k4 j _ hd).2⟩
 |vec s xs xs' hl hf=>
  obtain⟨c,T,lo,hi,k1,k2,k3,k4,k5,k6⟩:=hok
  refine⟨c,T,lo,hi,k1,k2,k3,by rw[←hl];exact k4,fun i x' hx'=>?_,fun i x' j d' hx' hd'=>?_⟩
  ·have hi':=(C9Z.1 hx').1
   have hx:xs[i]? =some (xs[i]'(by omega)):=C9g _
   rw[←(hf i _ _ hx hx').1];exact k5 i _ hx
  ·have hi':=(C9Z.1 hx').1
   have hx:xs[i]? =some (xs[i]'(by omega)):=C9g _
   have hlen:=(hf i _ _ hx hx').1
   have hj:=(C9Z.1 hd').1
   have hd:(xs[i]'(by omega))[j]? =some ((xs[i]'(by omega))[j]'(by omega)):=C9g _
   have hfz:=(hf i _ _ hx hx').2 j _ _ hd hd'
   exact⟨hfz.one (k6 i _ j _ hx hd).1,hR hfz (k6 i _ j _ hx hd).2⟩
def fzD(b sz:Nat)(es:List (List D)):D→D→Prop
 |d,d'=>d=d'∨(d= .vec b sz 0 es.length∧d'= .sl sz es)
theorem C3J{b sz:Nat}{es:List (List D)}{d d':D}(h:fzD b sz es d d'):Fz b sz es d d':=by
 rcases h with rfl|⟨rfl,rfl⟩
 ·exact .same _
 ·exact .all
def fzL(b sz:Nat)(es:List (List D)):List D→List D→Prop
 | [],[]=>True
 |d::l,d'::l'=>fzD b sz es d d'∧fzL b sz es l l'
 |_,_=>False
theorem A8g{b sz:Nat}{es:List (List D)}: ∀{l l':List D},fzL b sz es l l'→l.length=l'.length∧∀(i:Nat) d d',l[i]? =some d→l'[i]? =some d'→Fz b sz es d d'
 | [],[],_=>⟨rfl,fun i d d' h=>by cases h⟩
 |d::l,d'::l',h=>by
  obtain⟨h1,h2⟩:=A8g h.2
  refine⟨by rw[C9U,C9U,h1],fun i x x' hx hx'=>?_⟩
  cases i with
  |zero=>cases hx;cases hx';exact C3J h.1
  |succ i=>exact h2 i x x' hx hx'
 | [],_::_,h=>h.elim
 |_::_,[],h=>h.elim
def fzV(b sz:Nat)(es:List (List D)):List (List D)→List (List D)→Prop
 | [],[]=>True
 |d::l,d'::l'=>fzL b sz es d d'∧fzV b sz es l l'
 |_,_=>False
theorem A8h{b sz:Nat}{es:List (List D)}: ∀{l l':List (List D)},fzV b sz es l l'→l.length=l'.length∧∀(i:Nat) x x',l[i]? =some x→l'[i]? =some x'→x.length=x'.length∧∀(j:Nat) d d',x[j]? =some d→x'[j]? =some d'→Fz b sz es d d'
 | [],[],_=>⟨rfl,fun i d d' h=>by cases h⟩
 |d::l,d'::l',h=>by
  obtain⟨h1,h2⟩:=A8h h.2
  refine⟨by rw[C9U,C9U,h1],fun i x x' hx hx'=>?_⟩
  cases i with
  |zero=>cases hx;cases hx';exact A8g h.1
  |succ i=>exact h2 i x x' hx hx'
 | [],_::_,h=>h.elim
 |_::_,[],h=>h.elim
theorem A2S{b sz c s:Nat}{es xs xs':List (List D)}{H G:Heap}(hc:H c=some (.vec s xs))(hne:c≠b)(hf:fzV b sz es xs xs')(hG: ∀k o',G k=some o'→k≠b∧∃o,H k=some o∧OFz b sz es o o'):
  ∀k o',(G.set c (.vec s xs')) k=some o'→k≠b∧∃o,H k=some o∧OFz b sz es o o':=by
 intro k o' hk
 by_cases e:k=c
 ·subst e
  rw[A5]at hk
  cases hk
  exact⟨hne,_,hc,.vec _ _ _ (A8h hf).1 (A8h hf).2⟩
 ·rw[A8 _ e]at hk
  exact hG k o' hk
theorem B7L{b sz:Nat}{es:List (List D)}{H G:Heap}(h:G.Le H)(hb:G b=none): ∀k o',G k=some o'→k≠b∧∃o,H k=some o∧OFz b sz es o o':=fun k o' hk=>⟨fun e=>(by rw[e,hb]at hk;cases hk),o',h k o' hk,.same _⟩
def nlD:D→D→Prop
 |d,d'=>d=d'∨NilR d d'
def nlL:List D→List D→Prop
 | [],[]=>True
 |d::l,d'::l'=>nlD d d'∧nlL l l'
 |_,_=>False
theorem A5C: ∀{l l':List D},nlL l l'→l.length=l'.length∧∀(i:Nat) d d',l[i]? =some d→l'[i]? =some d'→NilR d d'
 | [],[],_=>⟨rfl,fun i d d' h=>by cases h⟩
 |d::l,d'::l',h=>by
  obtain⟨h1,h2⟩:=A5C h.2
  refine⟨by rw[C9U,C9U,h1],fun i x x' hx hx'=>?_⟩
  cases i with
  |zero=>cases hx;cases hx';rcases h.1 with rfl|q;exact .same _;exact q
  |succ i=>exact h2 i x x' hx hx'
 | [],_::_,h=>h.elim
 |_::_,[],h=>h.elim
def nlV:List (List D)→List (List D)→Prop
 | [],[]=>True
 |d::l,d'::l'=>nlL d d'∧nlV l l'
 |_,_=>False
theorem A5D: ∀{l l':List (List D)},nlV l l'→l.length=l'.length∧∀(i:Nat) x x',l[i]? =some x→l'[i]? =some x'→x.length=x'.length∧∀(j:Nat) d d',x[j]? =some d→x'[j]? =some d'→NilR d d'
 | [],[],_=>⟨rfl,fun i d d' h=>by cases h⟩
 |d::l,d'::l',h=>by
  obtain⟨h1,h2⟩:=A5D h.2
  refine⟨by rw[C9U,C9U,h1],fun i x x' hx hx'=>?_⟩
  cases i with
  |zero=>cases hx;cases hx';exact A5C h.1
  |succ i=>exact h2 i x x' hx hx'
 | [],_::_,h=>h.elim
 |_::_,[],h=>h.elim
theorem B7M{z:Nat}{es es':List (List D)}(h:nlV es es'):NilR (.sl z es) (.sl z es'):=
 .sl z es es' (A5D h).1 (fun i e e' h1 h2=>((A5D h).2 i e e' h1 h2).1) fun i e e' j d d' h1 h2 h3 h4=>((A5D h).2 i e e' h1 h2).2 j d d' h3 h4
theorem C3K{cs cs':List D}(h:nlL cs cs'):NilR (.agg cs) (.agg cs'):=.agg _ _ (A5C h).1 (A5C h).2
end Go.Av
namespace Go.Proofs.YtibphjonmikciaaGreatDoor
open Go Go.Av Go.Lexs Go.Lin Go.Fo
attribute [local irreducible] ACalls W4
theorem A7c{Q}(H:Heap)(h:Q (.agg (C1 fxF)) H):ACalls Tryz.prog 44 [] H Q:=by
 refine B2 [] B3 Tryz.func44 rfl (by kernel_rfl) (C9Q (by kernel_rfl)) (by kernel_rfl) ?_
 simp only[go_sem,Tryz.results44]
 repeat' (first|with_reducible apply C9P|simp only[go_sem]|simp(disch:=omega) only[A3]|simp(disch:=first|omega|grind) only[A6,C8]|(intro hx_;try simp only[A4]at hx_)|omega)
 rename_i b0 hb0 a ha p hp q hq d1 h1 d2 h2 d3
 have h3:=hx_
 clear hx_
 have na:a≠b0∧a≠p∧a≠q∧a≠d1∧a≠d2∧a≠d3:=⟨ha.1,hp.1.symm,hq.2.1.symm,h1.2.2.1.symm,h2.2.2.2.1.symm,h3.2.2.2.2.1.symm⟩
 have nd:d1≠b0∧d1≠d2∧d1≠d3:=⟨h1.2.2.2.1,h2.1.symm,h3.2.1.symm⟩
 have ne:d2≠b0∧d2≠d3:=⟨h2.2.2.2.2.1,h3.1.symm⟩
 have nf:d3≠b0:=h3.2.2.2.2.2.1
 have za:H a=none:=ha.2
 have zd:H d1=none:=h1.2.2.2.2
 have ze:H d2=none:=h2.2.2.2.2.2
 have zp:H p=none:=hp.2.2
 have zq:H q=none:=hq.2.2.2
 have zf:H d3=none:=h3.2.2.2.2.2.2
 clear ha hp hq h1 h2 h3
 refine A13 (b:=a) (sz:=2) (es:=[[.str ⟨#[120]⟩,.int .i64 1]]) (by rw[A8 _ na.1,A8 _ na.2.2.2.2.2,A8 _ na.2.2.2.2.1,A8 _ na.2.2.2.1,A8 _ na.2.2.1,A8 _ na.2.1,A5]) (H':=((H.set d1 (.vec 7 [[.int .i64 3,.int .i64 0,.nilsl,.int .i64 0,.bool false,.str ⟨#[98]⟩,.nilsl]])).set d2 (.vec 7 ([[.int .i64 2,.int .i64 0,.sl 2 [[.str ⟨#[120]⟩,.int .i64 1]],.int .i64 (-3),.bool true,.str ⟨#[]⟩,.nilsl],[.int .i64 4,.int .i64 0,.nilsl,.int .i64 0,.bool false,.str ⟨#[]⟩,.vec d1 7 0 1]]))).set d3 (.vec 7 ([[.int .i64 2,.int .i64 0,.sl 2 [[.str ⟨#[120]⟩,.int .i64 1]],.int .i64 (-1),.bool false,.str ⟨#[]⟩,.nilsl],[.int .i64 6,.int .i64 0,.nilsl,.int .i64 0,.bool false,.str ⟨#[]⟩,.vec d2 7 0 2]]))) ?_ ?_
 ·refine A2S (xs:=[[.int .i64 2,.int .i64 0,.vec a 2 0 1,.int .i64 (-1),.bool false,.str ⟨#[]⟩,.nilsl],[.int .i64 6,.int .i64 0,.nilsl,.int .i64 0,.bool false,.str ⟨#[]⟩,.vec d2 7 0 2]]) (by rw[A8 _ nf,A5]) na.2.2.2.2.2.symm (by simp[fzV,fzL,fzD]) (A2S (xs:=[[.int .i64 2,.int .i64 0,.vec a 2 0 1,.int .i64 (-3),.bool true,.str ⟨#[]⟩,.nilsl],[.int .i64 4,.int .i64 0,.nilsl,.int .i64 0,.bool false,.str ⟨#[]⟩,.vec d1 7 0 1]]) (by rw[A8 _ ne.1,A8 _ ne.2,A5]) na.2.2.2.2.1.symm (by simp[fzV,fzL,fzD]) (A2S (xs:=[[.int .i64 3,.int .i64 0,.nilsl,.int .i64 0,.bool false,.str ⟨#[98]⟩,.nilsl]]) (by rw[A8 _ nd.1,A8 _ nd.2.2,A8 _ nd.2.1,A5]) na.2.2.2.1.symm (by simp[fzV,fzL,fzD]) (B7L ?_ za)))
  intro k o hk
  by_cases k0:k=b0
  ·rw[k0,hb0]at hk;cases hk
  ·have kk: ∀x,H x=none→k≠x:=fun x hx e=>by rw[e,hx]at hk;cases hk
   rw[A8 _ k0,A8 _ (kk _ zf),A8 _ (kk _ ze),A8 _ (kk _ zd),A8 _ (kk _ zq),A8 _ (kk _ zp),A8 _ (kk _ za),A8 _ k0];exact hk
 refine A13 (b:=d1) (sz:=7) (es:=[[.int .i64 3,.int .i64 0,.nilsl,.int .i64 0,.bool false,.str ⟨#[98]⟩,.nilsl]]) (by rw[A8 _ nd.2.2,A8 _ nd.2.1,A5]) (H':=(H.set d2 (.vec 7 ([[.int .i64 2,.int .i64 0,.sl 2 [[.str ⟨#[120]⟩,.int .i64 1]],.int .i64 (-3),.bool true,.str ⟨#[]⟩,.nilsl],[.int .i64 4,.int .i64 0,.nilsl,.int .i64 0,.bool false,.str ⟨#[]⟩,.sl 7 [[.int .i64 3,.int .i64 0,.nilsl,.int .i64 0,.bool false,.str ⟨#[98]⟩,.nilsl]]]]))).set d3 (.vec 7 ([[.int .i64 2,.int .i64 0,.sl 2 [[.str ⟨#[120]⟩,.int .i64 1]],.int .i64 (-1),.bool false,.str ⟨#[]⟩,.nilsl],[.int .i64 6,.int .i64 0,.nilsl,.int .i64 0,.bool false,.str ⟨#[]⟩,.vec d2 7 0 2]]))) ?_ ?_
 ·refine A2S (xs:=[[.int .i64 2,.int .i64 0,.sl 2 [[.str ⟨#[120]⟩,.int .i64 1]],.int .i64 (-1),.bool false,.str ⟨#[]⟩,.nilsl],[.int .i64 6,.int .i64 0,.nilsl,.int .i64 0,.bool false,.str ⟨#[]⟩,.vec d2 7 0 2]]) (A5 _ _) nd.2.2.symm (by simp[fzV,fzL,fzD]) (A2S (xs:=[[.int .i64 2,.int .i64 0,.sl 2 [[.str ⟨#[120]⟩,.int .i64 1]],.int .i64 (-3),.bool true,.str ⟨#[]⟩,.nilsl],[.int .i64 4,.int .i64 0,.nilsl,.int .i64 0,.bool false,.str ⟨#[]⟩,.vec d1 7 0 1]]) (by rw[A8 _ ne.2,A5]) nd.2.1.symm (by simp[fzV,fzL,fzD]) (B7L ?_ zd))
  exact(A2 zd).trans ((A2 (by rw[A8 _ nd.2.1.symm];exact ze)).trans (A2 (by rw[A8 _ ne.2.symm,A8 _ nd.2.2.symm];exact zf)))
 refine A13 (b:=d2) (sz:=7) (es:=[[.int .i64 2,.int .i64 0,.sl 2 [[.str ⟨#[120]⟩,.int .i64 1]],.int .i64 (-3),.bool true,.str ⟨#[]⟩,.nilsl],[.int .i64 4,.int .i64 0,.nilsl,.int .i64 0,.bool false,.str ⟨#[]⟩,.sl 7 [[.int .i64 3,.int .i64 0,.nilsl,.int .i64 0,.bool false,.str ⟨#[98]⟩,.nilsl]]]]) (by rw[A8 _ ne.2,A5]) (H':=H.set d3 (.vec 7 ([[.int .i64 2,.int .i64 0,.sl 2 [[.str ⟨#[120]⟩,.int .i64 1]],.int .i64 (-1),.bool false,.str ⟨#[]⟩,.nilsl],[.int .i64 6,.int .i64 0,.nilsl,.int .i64 0,.bool false,.str ⟨#[]⟩,.sl 7 ([[.int .i64 2,.int .i64 0,.sl 2 [[.str ⟨#[120]⟩,.int .i64 1]],.int .i64 (-3),.bool true,.str ⟨#[]⟩,.nilsl],[.int .i64 4,.int .i64 0,.nilsl,.int .i64 0,.bool false,.str ⟨#[]⟩,.sl 7 [[.int .i64 3,.int .i64 0,.nilsl,.int .i64 0,.bool false,.str ⟨#[98]⟩,.nilsl]]]])]]))) ?_ ?_
 ·refine A2S (xs:=[[.int .i64 2,.int .i64 0,.sl 2 [[.str ⟨#[120]⟩,.int .i64 1]],.int .i64 (-1),.bool false,.str ⟨#[]⟩,.nilsl],[.int .i64 6,.int .i64 0,.nilsl,.int .i64 0,.bool false,.str ⟨#[]⟩,.vec d2 7 0 2]]) (A5 _ _) ne.2.symm (by simp[fzV,fzL,fzD]) (B7L ?_ ze)
  exact(A2 ze).trans (A2 (by rw[A8 _ ne.2.symm];exact zf))
 refine T3 (b:=d3) (sz:=7) (es:=[[.int .i64 2,.int .i64 0,.sl 2 [[.str ⟨#[120]⟩,.int .i64 1]],.int .i64 (-1),.bool false,.str ⟨#[]⟩,.nilsl],[.int .i64 6,.int .i64 0,.nilsl,.int .i64 0,.bool false,.str ⟨#[]⟩,.sl 7 ([[.int .i64 2,.int .i64 0,.sl 2 [[.str ⟨#[120]⟩,.int .i64 1]],.int .i64 (-3),.bool true,.str ⟨#[]⟩,.nilsl],[.int .i64 4,.int .i64 0,.nilsl,.int .i64 0,.bool false,.str ⟨#[]⟩,.sl 7 [[.int .i64 3,.int .i64 0,.nilsl,.int .i64 0,.bool false,.str ⟨#[98]⟩,.nilsl]]]])]]) (cs':=[.int .i64 5,.int .i64 0,.nilsl,.int .i64 0,.bool false,.str ⟨#[]⟩,.sl 7 ([[.int .i64 2,.int .i64 0,.sl 2 [[.str ⟨#[120]⟩,.int .i64 1]],.int .i64 (-1),.bool false,.str ⟨#[]⟩,.nilsl],[.int .i64 6,.int .i64 0,.nilsl,.int .i64 0,.bool false,.str ⟨#[]⟩,.sl 7 ([[.int .i64 2,.int .i64 0,.sl 2 [[.str ⟨#[120]⟩,.int .i64 1]],.int .i64 (-3),.bool true,.str ⟨#[]⟩,.nilsl],[.int .i64 4,.int .i64 0,.nilsl,.int .i64 0,.bool false,.str ⟨#[]⟩,.sl 7 [[.int .i64 3,.int .i64 0,.nilsl,.int .i64 0,.bool false,.str ⟨#[98]⟩,.nilsl]]]])]])]) (A5 _ _) rfl (A8g (by simp[fzL,fzD])).2 ?_
 refine D9 (d':=.agg (C1 fxF)) ?_ (D0r ?_ h)
 ·have e:C1 fxF= [.int .i64 5,.int .i64 0,.sl 2 [],.int .i64 0,.bool false,.str ⟨#[]⟩,.sl 7 ([[.int .i64 2,.int .i64 0,.sl 2 [[.str ⟨#[120]⟩,.int .i64 1]],.int .i64 (-1),.bool false,.str ⟨#[]⟩,.sl 7 []],[.int .i64 6,.int .i64 0,.sl 2 [],.int .i64 0,.bool false,.str ⟨#[]⟩,.sl 7 ([[.int .i64 2,.int .i64 0,.sl 2 [[.str ⟨#[120]⟩,.int .i64 1]],.int .i64 (-3),.bool true,.str ⟨#[]⟩,.sl 7 []],[.int .i64 4,.int .i64 0,.sl 2 [],.int .i64 0,.bool false,.str ⟨#[]⟩,.sl 7 [[.int .i64 3,.int .i64 0,.sl 2 [],.int .i64 0,.bool false,.str ⟨#[98]⟩,.sl 7 []]]]])]])]:=rfl
  rw[e]
  have n0: ∀z,NilR .nilsl (.sl z []):=NilR.nil
  refine C3K ?_
  refine⟨.inl rfl,.inl rfl,.inr (n0 _),.inl rfl,.inl rfl,.inl rfl,.inr (B7M ?_),trivial⟩
  refine⟨⟨.inl rfl,.inl rfl,.inl rfl,.inl rfl,.inl rfl,.inl rfl,.inr (n0 _),trivial⟩,⟨.inl rfl,.inl rfl,.inr (n0 _),.inl rfl,.inl rfl,.inl rfl,.inr (B7M ?_),trivial⟩,trivial⟩
  refine⟨⟨.inl rfl,.inl rfl,.inl rfl,.inl rfl,.inl rfl,.inl rfl,.inr (n0 _),trivial⟩,⟨.inl rfl,.inl rfl,.inr (n0 _),.inl rfl,.inl rfl,.inl rfl,.inr (B7M ?_),trivial⟩,trivial⟩
  exact⟨⟨.inl rfl,.inl rfl,.inr (n0 _),.inl rfl,.inl rfl,.inl rfl,.inr (n0 _),trivial⟩,trivial⟩
 ·intro k o hk
  have:k≠d3:=fun e=>by rw[e,zf]at hk;cases hk
  show ((H.set d3 _).del d3) k=_
  rw[C8 this,A8 _ this];exact hk
theorem B7N(f:Fm)(ff:FmFit f): ∀{Q:D→Heap→Prop} (H:Heap) (h:Q (.bool true) H),ACalls Tryz.prog 21 [.agg (C1 f),.agg (C1 f)] H Q:=by
 induction ff with
 |mk o n l s ks ho hn hl hs hk hf ih=>
 intro Q H h
 have e:C1 (.mk o n l s ks)= [.int .i64 o,.int .i64 n,.sl 2 (Rw Q7 l.t),.int .i64 l.k,.bool l.e,.str s,.sl 7 (Rw C1 ks)]:=N2 _
 rw[e]
 refine B2 [(6,.par)] B3 Tryz.func21 rfl (by kernel_rfl) (C9Q (by kernel_rfl)) (by kernel_rfl) ?_
 simp only[go_sem,Tryz.results21]
 intro b2 g2 b3 g3
 simp only[A4]at g3
 have e2:((H.set b2 (.box [.int .i64 o,.int .i64 n,.sl 2 (Rw Q7 l.t),.int .i64 l.k,.bool l.e,.str s,.sl 7 (Rw C1 ks)])).set b3 (.box [.int .i64 o,.int .i64 n,.sl 2 (Rw Q7 l.t),.int .i64 l.k,.bool l.e,.str s,.sl 7 (Rw C1 ks)])) b2=some (.box [.int .i64 o,.int .i64 n,.sl 2 (Rw Q7 l.t),.int .i64 l.k,.bool l.e,.str s,.sl 7 (Rw C1 ks)]):=by rw[A8 _ g3.1.symm,A5]
 have e3:((H.set b2 (.box [.int .i64 o,.int .i64 n,.sl 2 (Rw Q7 l.t),.int .i64 l.k,.bool l.e,.str s,.sl 7 (Rw C1 ks)])).set b3 (.box [.int .i64 o,.int .i64 n,.sl 2 (Rw Q7 l.t),.int .i64 l.k,.bool l.e,.str s,.sl 7 (Rw C1 ks)])) b3=some (.box [.int .i64 o,.int .i64 n,.sl 2 (Rw Q7 l.t),.int .i64 l.k,.bool l.e,.str s,.sl 7 (Rw C1 ks)]):=A5 _ _
 have hle:H.Le ((H.set b2 (.box [.int .i64 o,.int .i64 n,.sl 2 (Rw Q7 l.t),.int .i64 l.k,.bool l.e,.str s,.sl 7 (Rw C1 ks)])).set b3 (.box [.int .i64 o,.int .i64 n,.sl 2 (Rw Q7 l.t),.int .i64 l.k,.bool l.e,.str s,.sl 7 (Rw C1 ks)])):=(A2 g2).trans (A2 (by simp only[A4];exact g3))
 generalize (H.set b2 (.box [.int .i64 o,.int .i64 n,.sl 2 (Rw Q7 l.t),.int .i64 l.k,.bool l.e,.str s,.sl 7 (Rw C1 ks)])).set b3 (.box [.int .i64 o,.int .i64 n,.sl 2 (Rw Q7 l.t),.int .i64 l.k,.bool l.e,.str s,.sl 7 (Rw C1 ks)])=Bs at e2 e3 hle⊢
 have m2:b2∈[b2,b3]:=by simp
 have m3:b3∈[b2,b3]:=by simp
 have hc: ∀{Q:D→Heap→Prop} (H:Heap) (h:Q (.bool true) H),ACalls Tryz.prog 60 [.agg [.sl 2 (Rw Q7 l.t),.int .i64 l.k,.bool l.e],.agg [.sl 2 (Rw Q7 l.t),.int .i64 l.k,.bool l.e]] H Q:=fun H h=>B89 l hl H h
 repeat' (first|with_reducible apply C9P|simp only[go_sem,e2,e3]|simp(disch:=omega) only[A0,A9,A3]|(intro hx_;try simp only[A4]at hx_)|with_reducible refine hc _ ?_|omega)
 refine D1 [2,3,44] (fun(i:Nat)=>[(45,.int .i64 i)]) (fun(i:Nat)=>Bs) (fun(i:Nat)=>i≤ks.length) (fun(i:Nat)=>ks.length-i) (0) (C9k _) (by(try simp only[go_sem])<;>(try simp(disch:=omega) [A0])<;>(try omega)) (by first|exact D0q _|exact A2 (by assumption)|exact B4 (by assumption)|simp only[Heap.Le,Heap.set,Heap.del]at* <;>grind) ?_
 rintro Ec rfl i hi
 by_cases hlt:i<ks.length
 ·have hkd:decide ((i:Int)<ks.length)=true:=C9R (by omega)
  have hti:(i:Int)<ks.length:=by omega
  have hin: ∀{Q:D→Heap→Prop} (H:Heap) (h:Q (.bool true) H),ACalls Tryz.prog 21 [.agg (C1 ks[i]),.agg (C1 ks[i])] H Q:=ih ks[i] (C9d hlt)
  repeat' (first|with_reducible apply C9P|simp only[go_sem,hkd,hti,A9 _ _ hlt,C2 _ _ hlt]|simp(disch:=omega) only[A0,A9,A3]|(intro hx_;try simp only[A4]at hx_)|omega)
  refine F4 (fun i'=>if i'=10 then .bool true else .undef) [b2,b3] ?_
  repeat' (first|with_reducible apply C9P|simp only[go_sem,hkd,hti,A9 _ _ hlt,C2 _ _ hlt,e2,e3,m2,m3]|simp(disch:=omega) only[A0,A9,A3]|(intro hx_;try simp only[A4]at hx_)|with_reducible refine Q9 (fun H' Q hro hq=>hin H' hq) ?_|omega)
  exact C3 (i+1) (by omega) (by omega) (by(try simp only[go_sem])<;>(try simp(disch:=omega) [A0])<;>(try omega)) (by simp only[Go.Av.Heap.Le,Go.Av.Heap.set,Go.Av.Heap.del]at* <;>grind)
 ·have hkd:decide ((i:Int)<ks.length)=false:=C9S (by omega)
  repeat' (first|with_reducible apply C9P|simp only[go_sem,hkd]|simp(disch:=omega) only[A0,A9,A3]|(intro hx_;try simp only[A4]at hx_)|omega)
  exact D0r hle h
theorem B9h{Q}(l:List VlV)(fl:A4U l)(H:Heap)(h:Q (.bool true) H):ACalls Tryz.prog 35 [.sl 2 (Rw vlC l),.sl 2 (Rw vlC l)] H Q:=by
 refine B2 [(6,.par)] B3 Tryz.func35 rfl (by kernel_rfl) (C9Q (by kernel_rfl)) (by kernel_rfl) ?_
 simp only[go_sem,Tryz.results35]
 have hlen:=fl.len
 refine D1 [0,1,12] (fun(i:Nat)=>[(13,.int .i64 i)]) (fun(i:Nat)=>H) (fun(i:Nat)=>i≤l.length) (fun(i:Nat)=>l.length-i) (0) (C9k _) (by(try simp only[go_sem])<;>(try simp(disch:=omega) [A0])<;>(try omega)) (by first|exact D0q _|exact A2 (by assumption)|exact B4 (by assumption)|simp only[Heap.Le,Heap.set,Heap.del]at* <;>grind) ?_
 rintro Ec rfl i hi
 by_cases hlt:i<l.length
 ·have hkd:decide ((i:Int)<l.length)=true:=C9R (by omega)
  have hti:(i:Int)<l.length:=by omega
  repeat' (first|with_reducible apply C9P|simp only[go_sem,hkd,hti,A9 _ _ hlt,C2 _ _ hlt]|simp(disch:=omega) only[A0,A9,A3]|intro hx_|omega)
  refine F4 (fun i'=>.undef) [] ?_
  repeat' (first|with_reducible apply C9P|simp only[go_sem,hkd,hti,A9 _ _ hlt,C2 _ _ hlt]|simp(disch:=omega) only[A0,A9,A3]|intro hx_|omega)
  exact C3 (i+1) (by omega) (by omega) (by(try simp only[go_sem])<;>(try simp(disch:=omega) [A0])<;>(try omega)) (by simp only[Go.Av.Heap.Le,Go.Av.Heap.set,Go.Av.Heap.del]at* <;>grind)
 ·have hkd:decide ((i:Int)<l.length)=false:=C9S (by omega)
  repeat' (first|with_reducible apply C9P|simp only[go_sem,hkd]|simp(disch:=omega) only[A0,A9,A3]|intro hx_|omega)
  exact D0u h
end Go.Proofs.YtibphjonmikciaaGreatDoor
namespace Go.Fo
open Go Go.Av Go.Lexs Go.Lin
theorem RdS.same{H H':Heap}{br:Nat}{r:List UInt8}{bad:Bool}(h:RdS H H' br r bad)(hb:H br=some (.box [.str (S r),.bool bad])):H'=H:=by
 funext k
 by_cases e:k=br
 ·rw[e,h.here,hb]
 ·exact h.els k e
theorem A1T{H B0 H':Heap}{br b4:Nat}{r:List UInt8}{bad:Bool}(s:RdS B0 H' br r bad)(hle:(H.del br).Le B0)(g4:H b4=none)(hne:br≠b4)(V:Av.Obj):(H.set br (.box [.str (S r),.bool bad])).Le (H'.set b4 V):=fun k o hk=>by
 by_cases e:k=br
 ·subst e;rw[A5]at hk;rw[A8 _ hne,s.here];exact hk
 ·rw[A8 _ e]at hk
  have k4:k≠b4:=fun e=>by rw[e,g4]at hk;cases hk
  rw[A8 _ k4,s.els k e]
  exact hle k o (by rw[C8 e];exact hk)
theorem B9i{H B0 H':Heap}{br b4 x:Nat}{r:List UInt8}{bad:Bool}(s:RdS B0 H' br r bad)(hle:(H.del br).Le B0)(g4:H b4=none)(hne:br≠b4)(hx:H' x=none)(o1 V:Av.Obj):(H.set br (.box [.str (S r),.bool bad])).Le (((H'.set x o1).set b4 V).del x):=fun k o hk=>by
 have h1:=A1T s hle g4 hne V k o hk
 have h2:k≠x:=fun e=>by
  by_cases e2:k=br
  ·rw[←e,e2,s.here]at hx;cases hx
  ·rw[A8 _ e2]at hk
   have:=hle k o (by rw[C8 e2];exact hk)
   rw[←s.els k e2,e,hx]at this;cases this
 rw[C8 h2]
 by_cases e4:k=b4
 ·subst e4;rw[A5]at h1⊢;exact h1
 ·rw[A8 _ e4]at h1⊢
  rw[A8 _ h2];exact h1
theorem A7d(r:List UInt8):P7 r=r.drop (L3 r).length:=by
 have h:L3 r++P7 r=r:=List.takeWhile_append_dropWhile
 conv=>rhs;rw[←h]
 rw[List.drop_left' (by rw[h])]
theorem B4Q{form:List UInt8→Fm×List UInt8×Bool}(hf: ∀r,∃j,(form r).2.1=r.drop j): ∀n r out,∃j,(A0v form n r out).2.1=r.drop j:=by
 intro n
 induction n with
 |zero=>intro r out;exact⟨0,rfl⟩
 |succ n ih=>
  intro r out
  obtain⟨j,hj⟩:=hf r
  rw[A0v]
  split
  ·exact⟨j+1,by show (form r).2.1.drop 1=_;rw[hj,D0Z]⟩
  ·split
   ·exact⟨j,hj⟩
   ·split
    ·obtain⟨k,hk⟩:=ih ((form r).2.1.drop 2) (out++[(form r).1])
     exact⟨j+(2+k),by rw[hk,hj,D0Z,D0Z]⟩
    ·exact⟨j,hj⟩
theorem B4R: ∀e r,∃j,(G1 e r).2.1=r.drop j:=by
 intro e
 induction e with
 |zero=>intro r;exact⟨0,rfl⟩
 |succ e ih=>
  intro r
  have hl: ∀k,∃j,(W8 (G1 e) (r.drop k)).2.1=r.drop j:=fun k=>by
   unfold W8
   split
   ·exact⟨k+1,by show (r.drop k).drop 1=_;rw[D0Z]⟩
   ·obtain⟨j,hj⟩:=B4Q ih ((r.drop k).length+1) (r.drop k) []
    exact⟨k+j,by rw[hj,D0Z]⟩
  rw[G1]
  split
  ·exact⟨1+(L3 (r.drop 1)).length,by show P7 (r.drop 1)=_;rw[A7d,D0Z]⟩
  ·split
   ·obtain⟨j,hj⟩:=ih (r.drop 1)
    exact⟨1+j,by show (G1 e (r.drop 1)).2.1=_;rw[hj,D0Z]⟩
   ·split
    ·exact hl 2
    ·split
     ·exact hl 2
     ·exact⟨_,A7d r⟩
end Go.Fo
namespace Go.Proofs.YtibphjonmikciaaGreatDoor
open Go Go.Av Go.Lexs Go.Lin Go.Fo
attribute [local irreducible] ACalls W4
theorem A8i(w:List UInt8)(l:List UInt8):(S w=⟨l.toArray⟩)=(w=l):=propext ⟨fun h=>C4o h,fun h=>by rw[h];rfl⟩
theorem C3L:A7a 0:=by
 intro Q br r hr hx H hT hb h
 have h0:((61:Int)-(0:Nat))=61:=by omega
 rw[h0]
 refine B2 [] B3 Tryz.func71 rfl (by kernel_rfl) (C9Q (by kernel_rfl)) (by kernel_rfl) ?_
 simp only[go_sem,Tryz.results71]
 intro b4 g4
 have hne:br≠b4:=fun e=>by rw[←e,hb]at g4;cases g4
 have eb:(H.set b4 (.box [.int .i64 0,.int .i64 0,.nilsl,.int .i64 0,.bool false,.str ⟨#[]⟩,.nilsl])) br=some (.box [.str (S r),.bool false]):=by rw[A8 _ hne];exact hb
 have e4:(H.set b4 (.box [.int .i64 0,.int .i64 0,.nilsl,.int .i64 0,.bool false,.str ⟨#[]⟩,.nilsl])) b4=some (.box [.int .i64 0,.int .i64 0,.nilsl,.int .i64 0,.bool false,.str ⟨#[]⟩,.nilsl]):=A5 _ _
 have hle2:(H.del br).Le (H.set b4 (.box [.int .i64 0,.int .i64 0,.nilsl,.int .i64 0,.bool false,.str ⟨#[]⟩,.nilsl])):=(D8 _ _).trans (A2 g4)
 generalize H.set b4 (.box [.int .i64 0,.int .i64 0,.nilsl,.int .i64 0,.bool false,.str ⟨#[]⟩,.nilsl])=Bs at eb e4 hle2⊢
 have f4:(Bs.set br (.box [.str (S r),.bool true])) b4=some (.box [.int .i64 0,.int .i64 0,.nilsl,.int .i64 0,.bool false,.str ⟨#[]⟩,.nilsl]):=by rw[A8 _ hne.symm];exact e4
 repeat' (first|with_reducible apply C9P|simp only[go_sem,eb,f4]|simp(disch:=omega) only[A3]|intro hx_|omega)
 exact D9 (A38 0 0 0 false D2) (D0r (A1T (RdS.set Bs br r true) hle2 g4 hne _) (h _ (RdS.set _ _ _ _)))
set_option maxHeartbeats 4000000 in
theorem C3M(e:Nat)(he:e+1≤60)(hF:A7a e):A7a (e+1):=by
 intro Q br r hr hx H hT hb h
 obtain⟨dp,hdp⟩: ∃dp:Int,dp=61-((e+1:Nat):Int):=⟨_,rfl⟩
 have hd0:1≤dp:=by omega
 have hd1:dp≤60:=by omega
 have hdw:IntKind.i64.wrap (dp+1)=61-(e:Int):=by rw[A0 (by omega) (by omega)];omega
 rw[←hdp]
 refine B2 [] B3 Tryz.func71 rfl (by kernel_rfl) (C9Q (by kernel_rfl)) (by kernel_rfl) ?_
 simp only[go_sem,Tryz.results71]
 intro b4 g4
 have hne:br≠b4:=fun e=>by rw[←e,hb]at g4;cases g4
 obtain⟨Z,hZ⟩: ∃Z:List D,Z= [.int .i64 0,.int .i64 0,.nilsl,.int .i64 0,.bool false,.str ⟨#[]⟩,.nilsl]:=⟨_,rfl⟩
 rw[←hZ]
 have e4:(H.set b4 (.box Z)) b4=some (.box Z):=A5 _ _
 have eb:(H.set b4 (.box Z)) br=some (.box [.str (S r),.bool false]):=by rw[A8 _ hne];exact hb
 have hle:H.Le (H.set b4 (.box Z)):=A2 g4
 have hle2:(H.del br).Le (H.set b4 (.box Z)):=(D8 _ _).trans hle
 generalize H.set b4 (.box Z)=Bs at e4 eb hle hle2⊢
 have hGd:(H.del br) br=none:=by simp[Heap.del]
 have tb: ∀{Hx:Heap} {r':List UInt8} {bd:Bool},RdS Bs Hx br r' bd→Tabs Hx:=fun s=>hT.rd hb (s.le hle2 hGd)
 have b63:B (⟨#[63]⟩:ByteArray)= [63]:=rfl
 have b33:B (⟨#[33]⟩:ByteArray)= [33]:=rfl
 have b38:B (⟨#[38,40]⟩:ByteArray)= [38,40]:=rfl
 have b124:B (⟨#[124,40]⟩:ByteArray)= [124,40]:=rfl
 have z63:(⟨#[63]⟩:ByteArray).size=1:=rfl
 have z33:(⟨#[33]⟩:ByteArray).size=1:=rfl
 have z38:(⟨#[38,40]⟩:ByteArray).size=2:=rfl
 have z124:(⟨#[124,40]⟩:ByteArray).size=2:=rfl
 have hd2: ¬60<dp:=by omega
 have hsuf:=fun(r:List UInt8) (_:r.length≤20000)=>B4R e r
 rw[G1]at h
 repeat' (first|with_reducible apply C9P|simp only[go_sem,eb,hd2]|simp(disch:=omega) only[A0,A3]|simp(disch:=first|omega|grind) only[A6]|intro hx_|omega)
 refine A2z br ⟨#[63]⟩ r false Bs eb fun H1 s1=>?_
 rw[b63,z63]at s1
 rw[b63]
 cases p1:pre [63] r with
 |true=>
  rw[p1]at h s1
  simp only[if_true]at h s1
  repeat' (first|with_reducible apply C9P|simp only[go_sem]|simp(disch:=omega) only[A0,A3]|simp(disch:=first|omega|grind) only[A6]|intro hx_|omega)
  refine B29 br (r.drop 1) false (by rw[C9x];omega) (hx 1) H1 s1.here fun H2 s2=>?_
  have s12:=s1.trans s2
  have f4:=s12.keep e4 hne.symm
  rw[hZ]at f4
  repeat' (first|with_reducible apply C9P|simp only[go_sem,f4]|simp(disch:=omega) only[A0,A3]|simp(disch:=first|omega|grind) only[A6]|intro hx_|omega)
  exact D9 (A38 3 0 0 false _) (D0r (A1T s12 hle2 g4 hne _) (h _ (RdS.set _ _ _ _)))
 |false=>
  rw[p1]at h s1
  simp only[C9f,if_false]at h s1
  have hs:=s1.same eb
  subst hs
  clear s1
  repeat' (first|with_reducible apply C9P|simp only[go_sem]|simp(disch:=omega) only[A0,A3]|simp(disch:=first|omega|grind) only[A6]|intro hx_|omega)
  refine A2z br ⟨#[33]⟩ r false _ eb fun H2 s2=>?_
  rw[b33,z33]at s2
  rw[b33]
  cases p2:pre [33] r with
  |true=>
   rw[p2]at h s2
   simp only[if_true]at h s2
   repeat' (first|with_reducible apply C9P|simp only[go_sem,hdw]|simp(disch:=omega) only[A0,A3]|simp(disch:=first|omega|grind) only[A6]|intro hx_|omega)
   refine hF _ br (r.drop 1) (by rw[C9x];omega) (A2R hx 1) H2 (tb s2) s2.here fun H3 s3=>?_
   have s23:=s2.trans s3
   have f4:=s23.keep e4 hne.symm
   rw[hZ]at f4
   repeat' (first|with_reducible apply C9P|simp only[go_sem,f4]|simp(disch:=omega) only[A0,A3]|simp(disch:=first|omega|grind) only[A6]|intro hx_|omega)
   rename_i x
   have hx1:=hx_
   clear hx_
   refine A8M (ob:=some x) (ks:=[(G1 e (r.drop 1)).1]) rfl (?_:(Heap.set _ b4 _) x=_) (D0r (B9i s23 hle2 g4 hne hx1 _ _) (h _ (RdS.set _ _ _ _)))
   have hx4:x≠b4:=fun e=>by rw[e,f4]at hx1;cases hx1
   rw[A8 _ hx4];exact A5 _ _
  |false=>
   rw[p2]at h s2
   simp only[C9f,if_false]at h s2
   have hs:=s2.same eb
   subst hs
   clear s2
   repeat' (first|with_reducible apply C9P|simp only[go_sem]|simp(disch:=omega) only[A0,A3]|simp(disch:=first|omega|grind) only[A6]|intro hx_|omega)
   refine A2z br ⟨#[38,40]⟩ r false _ eb fun H3 s3=>?_
   rw[b38,z38]at s3
   rw[b38]
   cases p3:pre [38,40] r with
   |true=>
    rw[p3]at h s3
    simp only[if_true]at h s3
    repeat' (first|with_reducible apply C9P|simp only[go_sem,hdw]|simp(disch:=omega) only[A0,A3]|simp(disch:=first|omega|grind) only[A6]|intro hx_|omega)
    refine B7F e (by omega) hF br (r.drop 2) (by rw[C9x];omega) (A2R hx 2) H3 (tb s3) s3.here hsuf fun H4 s4=>?_
    have s34:=s3.trans s4
    have f4:=s34.keep e4 hne.symm
    rw[hZ]at f4
    repeat' (first|with_reducible apply C9P|simp only[go_sem,f4]|simp(disch:=omega) only[A0,A3]|simp(disch:=first|omega|grind) only[A6]|intro hx_|omega)
    exact D9 (B1U 5 0 0 false D2 _) (D0r (A1T s34 hle2 g4 hne _) (h _ (RdS.set _ _ _ _)))
   |false=>
    rw[p3]at h s3
    simp only[C9f,if_false]at h s3
    have hs:=s3.same eb
    subst hs
    clear s3
    repeat' (first|with_reducible apply C9P|simp only[go_sem]|simp(disch:=omega) only[A0,A3]|simp(disch:=first|omega|grind) only[A6]|intro hx_|omega)
    refine A2z br ⟨#[124,40]⟩ r false _ eb fun H4 s4=>?_
    rw[b124,z124]at s4
    rw[b124]
    cases p4:pre [124,40] r with
    |true=>
     rw[p4]at h s4
     simp only[if_true]at h s4
     repeat' (first|with_reducible apply C9P|simp only[go_sem,hdw]|simp(disch:=omega) only[A0,A3]|simp(disch:=first|omega|grind) only[A6]|intro hx_|omega)
     refine B7F e (by omega) hF br (r.drop 2) (by rw[C9x];omega) (A2R hx 2) H4 (tb s4) s4.here hsuf fun H5 s5=>?_
     have s45:=s4.trans s5
     have f4:=s45.keep e4 hne.symm
     rw[hZ]at f4
     repeat' (first|with_reducible apply C9P|simp only[go_sem,f4]|simp(disch:=omega) only[A0,A3]|simp(disch:=first|omega|grind) only[A6]|intro hx_|omega)
     exact D9 (B1U 6 0 0 false D2 _) (D0r (A1T s45 hle2 g4 hne _) (h _ (RdS.set _ _ _ _)))
    |false=>
     rw[p4]at h s4
     simp only[C9f,if_false]at h s4
     have hs:=s4.same eb
     subst hs
     clear s4
     repeat' (first|with_reducible apply C9P|simp only[go_sem]|simp(disch:=omega) only[A0,A3]|simp(disch:=first|omega|grind) only[A6]|intro hx_|omega)
     have hx0:=hx 0
     rw[List.drop_zero]at hx0
     refine B29 br r false (by omega) hx0 _ eb fun H5 s5=>?_
     have f4:=s5.keep e4 hne.symm
     rw[hZ]at f4
     have ht1:=A6I r
     unfold A6e at h
     by_cases w1:L3 r=A0u
     ·rw[if_pos w1]at h
      have w1':L3 r= [116,114,117,101]:=w1
      repeat' (first|with_reducible apply C9P|simp only[go_sem,f4,A8i,w1']|simp(disch:=omega) only[A0,A3]|simp(disch:=first|omega|grind) only[A6]|intro hx_|omega)
      exact D9 (A38 1 1 0 false D2) (D0r (A1T s5 hle2 g4 hne _) (h _ (RdS.set _ _ _ _)))
     ·rw[if_neg w1]at h
      have w1': ¬L3 r= [116,114,117,101]:=w1
      by_cases w2:L3 r=flsB
      ·rw[if_pos w2]at h
       have w2':L3 r= [102,97,108,115,101]:=w2
       have w12: ¬([102,97,108,115,101]:List UInt8)= [116,114,117,101]:=by decide
       repeat' (first|with_reducible apply C9P|simp only[go_sem,f4,A8i,w2',w12]|simp(disch:=omega) only[A0,A3]|simp(disch:=first|omega|grind) only[A6]|intro hx_|omega)
       exact D9 (A38 1 0 0 false D2) (D0r (A1T s5 hle2 g4 hne _) (h _ (RdS.set _ _ _ _)))
      ·rw[if_neg w2]at h
       have w2': ¬L3 r= [102,97,108,115,101]:=w2
       obtain⟨⟨L,er⟩,hpo⟩: ∃x,x=M5 (L3 r):=⟨_,rfl⟩
       have pc:=fun(Q:D→Heap→Prop) (H:Heap) (hT:Tabs H)=>B9F (Q:=Q) (S (L3 r)) (by rw[O1];omega) H hT
       rw[l9,←hpo]at pc
       rw[←hpo]at h
       simp only at h pc
       have r5:=s5.here
       by_cases e0:er=0
       ·have hbd:decide (er≠0)=false:=by simp[e0]
        rw[hbd]at h
        repeat' (first|with_reducible apply C9P|simp only[go_sem,f4,A8i,w1',w2',r5,e0]|simp(disch:=omega) only[A0,A3]|simp(disch:=first|omega|grind) only[A6]|intro hx_|with_reducible refine pc _ _ (tb s5) ?_|omega)
        rename_i b6
        have h6:=hx_
        clear hx_
        have n46:b4≠b6:=fun e=>by rw[←e,f4]at h6;cases h6
        have s6:=RdS.set (H5.set b6 (.box [.sl 2 (Rw Q7 L.t),.int .i64 L.k,.bool L.e])) br (P7 r) false
        have f46:=s6.keep (b:=b4) (by rw[A8 _ n46];exact f4) hne.symm
        have hle6:=(s5.le hle2 hGd).trans (A2 (o:=.box [.sl 2 (Rw Q7 L.t),.int .i64 L.k,.bool L.e]) h6)
        repeat' (first|with_reducible apply C9P|simp only[go_sem,f46]|simp(disch:=omega) only[A0,A3]|simp(disch:=first|omega|grind) only[A6]|intro hx_|with_reducible refine A4E L _ ?_|omega)
        exact D0r (A1T s6 hle6 g4 hne _) (h _ (RdS.set _ _ _ _))
       ·have hbd:decide (er≠0)=true:=by simp[e0]
        rw[hbd]at h
        repeat' (first|with_reducible apply C9P|simp only[go_sem,f4,A8i,w1',w2',r5,e0]|simp(disch:=omega) only[A0,A3]|simp(disch:=first|omega|grind) only[A6]|intro hx_|with_reducible refine pc _ _ (tb s5) ?_|omega)
        rename_i b6
        have h6:=hx_
        clear hx_
        have n46:b4≠b6:=fun e=>by rw[←e,f4]at h6;cases h6
        have s6:=RdS.set (H5.set b6 (.box [.sl 2 (Rw Q7 L.t),.int .i64 L.k,.bool L.e])) br (P7 r) true
        have f46:=s6.keep (b:=b4) (by rw[A8 _ n46];exact f4) hne.symm
        have hle6:=(s5.le hle2 hGd).trans (A2 (o:=.box [.sl 2 (Rw Q7 L.t),.int .i64 L.k,.bool L.e]) h6)
        repeat' (first|with_reducible apply C9P|simp only[go_sem,f46]|simp(disch:=omega) only[A0,A3]|simp(disch:=first|omega|grind) only[A6]|intro hx_|with_reducible refine A4E L _ ?_|omega)
        exact D0r (A1T s6 hle6 g4 hne _) (h _ (RdS.set _ _ _ _))
theorem C3N: ∀e,e≤60→A7a e:=by
 intro e
 induction e with
 |zero=>intro _;exact C3L
 |succ e ih=>intro he;exact C3M e he (ih (by omega))
theorem A3e(n:Int):NilR (.tuple [.agg [.int .i64 0,.int .i64 0,.nilsl,.int .i64 0,.bool false,.str ⟨#[]⟩,.nilsl],.int .i64 n]) (.tuple [.agg (C1 S8),.int .i64 n]):=C2Z (A38 0 0 0 false D2)
theorem B0j{Q}(s:ByteArray)(hx:s.size≤20000→∀k,A6F ((B s).drop k))(H:Heap)(hT:Tabs H)(h:Q (.tuple [.agg (C1 (A2x (B s)).1),.int .i64 (A2x (B s)).2]) H):ACalls Tryz.prog 29 [.str s] H Q:=by
 refine B2 [] B3 Tryz.func29 rfl (by kernel_rfl) (C9Q (by kernel_rfl)) (by kernel_rfl) ?_
 simp only[go_sem,Tryz.results29]
 have hbl:=Y7 s
 intro b2 g2
 obtain⟨Z,hZ⟩: ∃Z:List D,Z= [.int .i64 0,.int .i64 0,.nilsl,.int .i64 0,.bool false,.str ⟨#[]⟩,.nilsl]:=⟨_,rfl⟩
 rw[←hZ]
 have e2:(H.set b2 (.box Z)) b2=some (.box Z):=A5 _ _
 have hle:H.Le (H.set b2 (.box Z)):=A2 g2
 generalize H.set b2 (.box Z)=Bs at e2 hle⊢
 have hTb:=hT.le hle
 unfold A2x at h
 by_cases hl:(B s).length > 20000
 ·rw[if_pos hl]at h
  have g1:(20000:Int)<s.size:=by omega
  subst hZ
  repeat' (first|with_reducible apply C9P|simp only[go_sem,g1,e2]|simp(disch:=omega) only[A3]|simp(disch:=first|omega|grind) only[A6]|intro hx_|omega)
  exact D9 (A3e 3) (D0r (by first|exact hle|exact G3 hle g2) h)
 ·rw[if_neg hl]at h
  have g1: ¬(20000:Int)<s.size:=by omega
  have fc:=C3N 60 (by omega)
  unfold A7a at fc
  rw[show ((61:Int)-(60:Nat))=1 by omega]at fc
  have hsz:=(B0c 60 (B s) (by omega))
  repeat' (first|with_reducible apply C9P|simp only[go_sem,g1]|simp(disch:=omega) only[A3]|simp(disch:=first|omega|grind) only[A6]|intro hx_|omega)
  rename_i br
  have hr:=hx_
  clear hx_
  have er:(Bs.set br (.box [.str s,.bool false])) br=some (.box [.str (S (B s)),.bool false]):=by rw[A5,S_B]
  have nr:b2≠br:=fun e=>by rw[←e,e2]at hr;cases hr
  have hle2:H.Le (Bs.set br (.box [.str s,.bool false])):=hle.trans (A2 hr)
  have e22:(Bs.set br (.box [.str s,.bool false])) b2=some (.box Z):=by rw[A8 _ nr];exact e2
  have hHr:H br=none:=hle.none hr
  generalize Bs.set br (.box [.str s,.bool false])=Cs at er e22 hle2⊢
  refine fc _ br (B s) (by omega) (hx (by omega)) _ (hT.le hle2) er fun H1 s1=>?_
  obtain⟨⟨f1,r1,bad⟩,hf1⟩: ∃x,x=G1 60 (B s):=⟨_,rfl⟩
  rw[←hf1]at h hsz s1⊢
  simp only at h hsz s1⊢
  have e12:=s1.keep e22 nr
  have hle1:=s1.le hle2 hHr
  have er1:=s1.here
  repeat' (first|with_reducible apply C9P|simp only[go_sem]|simp(disch:=omega) only[A3]|simp(disch:=first|omega|grind) only[A6]|intro hx_|omega)
  rename_i b5
  have h5:=hx_
  clear hx_
  have n5:br≠b5∧b2≠b5:=⟨fun e=>(by rw[←e,er1]at h5;cases h5),fun e=>(by rw[←e,e12]at h5;cases h5)⟩
  have c5:(H1.set b5 (.box (C1 f1))) b5=some (.box (C1 f1)):=A5 _ _
  have cr:(H1.set b5 (.box (C1 f1))) br=some (.box [.str (S r1),.bool bad]):=by rw[A8 _ n5.1];exact er1
  have c2:(H1.set b5 (.box (C1 f1))) b2=some (.box Z):=by rw[A8 _ n5.2];exact e12
  have hle5:H.Le (H1.set b5 (.box (C1 f1))):=hle1.trans (A2 h5)
  generalize H1.set b5 (.box (C1 f1))=Ds at c5 cr c2 hle5⊢
  cases bad with
  |true=>
   simp only[true_or,if_true]at h
   subst hZ
   repeat' (first|with_reducible apply C9P|simp only[go_sem,er1,cr,c2]|simp(disch:=omega) only[A3]|simp(disch:=first|omega|grind) only[A6]|intro hx_|omega)
   exact D9 (A3e 30) (D0r (by first|exact hle5|exact G3 hle5 g2) h)
  |false=>
   by_cases hr1:r1= []
   ·rw[hr1]at h cr er1
    simp only[C9f,ne_eq,not_true,or_self,if_false]at h
    unfold okF at h
    have fo:=hsz.2.fit
    have vo:VOk f1:=.inl (by have:=hsz.2.wt;omega)
    have tx:=fun(Q:D→Heap→Prop) (H:Heap) (hT:Tabs H)=>A8d (Q:=Q) f1 fo vo H hT
    have s0:S []=⟨#[]⟩:=rfl
    cases hv:E4 f1 with
    |false=>
     rw[hv]at h tx
     simp only[C9f,false_and,if_false]at h tx
     subst hZ
     repeat' (first|with_reducible apply C9P|simp only[go_sem,er1,cr,c2,c5,s0]|simp(disch:=omega) only[A3]|simp(disch:=first|omega|grind) only[A6]|intro hx_|with_reducible refine tx _ _ (hT.le hle5) ?_|omega)
     exact D9 (A3e 30) (D0r (by first|exact hle5|exact G3 hle5 g2) h)
    |true=>
     rw[hv]at h tx
     simp only[true_and,if_true]at h tx
     by_cases ht:D7 f1=B s
     ·rw[if_pos ht]at h
      subst hZ
      repeat' (first|with_reducible apply C9P|simp only[go_sem,er1,cr,c2,c5,s0,ht]|simp(disch:=omega) only[A3]|simp(disch:=first|omega|grind) only[A6]|intro hx_|with_reducible refine tx _ _ (hT.le hle5) ?_|omega)
      exact D0r (G3 hle5 g2) h
     ·rw[if_neg ht]at h
      subst hZ
      repeat' (first|with_reducible apply C9P|simp only[go_sem,er1,cr,c2,c5,s0,ht]|simp(disch:=omega) only[A3]|simp(disch:=first|omega|grind) only[A6]|intro hx_|with_reducible refine tx _ _ (hT.le hle5) ?_|omega)
      exact D9 (A3e 30) (D0r (by first|exact hle5|exact G3 hle5 g2) h)
   ·rw[if_pos (.inr hr1)]at h
    subst hZ
    repeat' (first|with_reducible apply C9P|simp only[go_sem,er1,cr,c2,hr1]|simp(disch:=omega) only[A3]|simp(disch:=first|omega|grind) only[A6]|intro hx_|omega)
    exact D9 (A3e 30) (D0r (by first|exact hle5|exact G3 hle5 g2) h)
end Go.Proofs.YtibphjonmikciaaGreatDoor
namespace Go.Fo
open Go Go.Av Go.Lexs Go.Lin
theorem B7O(l:List Fm)(p:Fm→Bool):(l.any fun f=> !p f)= !l.all p:=by
 induction l with
 |nil=>rfl
 |cons x l ih=>rw[D0U,D0S,ih,Bool.not_and]
theorem B9j{Q:D→Heap→Prop}{H:Heap}{n:Nat}{ob:Option Nat}{o m k x:Int}{e:Bool}{s:ByteArray}{ks:List Fm}(hn:n=ks.length)(ho:OutAt H 7 (Rw C1 ks) ob)(h:Fin Q (.tuple [.agg (C1 (.mk o m ⟨[],k,e⟩ s ks)),.int .i64 x]) (K5 H ob)):
  Fin Q (.tuple [.agg [.int .i64 o,.int .i64 m,.nilsl,.int .i64 k,.bool e,.str s,J4 7 n ob],.int .i64 x]) H:=by
 rw[a8]at h
 cases ob with
 |none=>
  have hz:Rw C1 ks= []:=ho
  refine D9 ?_ h
  rw[hz]
  exact C2Z (B1T (.nil 2) (.nil 7))
 |some b=>
  have hb:H b=some (.vec 7 (Rw C1 ks)):=ho
  subst hn
  refine A4h (cs':=[.int .i64 o,.int .i64 m,.sl 2 [],.int .i64 k,.bool e,.str s,.sl 7 (Rw C1 ks)]) hb rfl (fz7 (.nil 2) ?_) h
  show Fz b 7 (Rw C1 ks) (.vec b 7 0 ks.length) _
  have:=Fz.all (b:=b) (sz:=7) (es:=Rw C1 ks)
  rwa [D6]at this
end Go.Fo
namespace Go.Proofs.YtibphjonmikciaaGreatDoor
open Go Go.Av Go.Lexs Go.Lin Go.Fo
attribute [local irreducible] ACalls W4
theorem B9k{Q}(f:Fm)(fa:FmFit f)(vo:VOk f)(H:Heap)(h:Q (.bool (!E4 f)) H):ACalls Tryz.prog 113 [.agg (C1 f)] H Q:=by
 refine B2 [] B3 Tryz.func113 rfl (by kernel_rfl) (C9Q (by kernel_rfl)) (by kernel_rfl) ?_
 simp only[go_sem,Tryz.results113]
 intro b1 h1
 have e1:(H.set b1 (.box (C1 f))) b1=some (.box (C1 f)):=A5 _ _
 have hle:H.Le (H.set b1 (.box (C1 f))):=A2 h1
 generalize H.set b1 (.box (C1 f))=Bs at e1 hle⊢
 repeat' (first|with_reducible apply C9P|simp only[go_sem,e1]|simp(disch:=omega) only[A3]|intro hx_|with_reducible refine Q5 f fa vo _ ?_|omega)
 exact D0r hle h
theorem B7P{Q}(o:Int)(ho:o=5∨o=6)(l:List Fm)(fl: ∀f∈l,FmFit f)(hlen:l.length≤1466015503658)(vl: ∀f∈l,VOk f)(hw:l.all E4=true→K7.wtL l≤900000)(H:Heap)(h:Q (.tuple [.agg (C1 (A1v o l).1),.int .i64 (A1v o l).2]) H):ACalls Tryz.prog 67 [.int .i64 o,.sl 7 (Rw C1 l)] H Q:=by
 refine B2 [(9,.par)] B3 Tryz.func67 rfl (by kernel_rfl) (C9Q (by kernel_rfl)) (by kernel_rfl) ?_
 simp only[go_sem,Tryz.results67]
 intro b4 g4
 obtain⟨Z,hZ⟩: ∃Z:List D,Z= [.int .i64 0,.int .i64 0,.nilsl,.int .i64 0,.bool false,.str ⟨#[]⟩,.nilsl]:=⟨_,rfl⟩
 rw[←hZ]
 have e4:(H.set b4 (.box Z)) b4=some (.box Z):=A5 _ _
 have hle:H.Le (H.set b4 (.box Z)):=A2 g4
 generalize H.set b4 (.box Z)=Bs at e4 hle⊢
 have hl4: ∀x,H.Le (Bs.set b4 x):=fun x=>G3 hle g4
 have cc:=fun(Q:D→Heap→Prop) (H:Heap)=>A8T (Q:=Q) (fun f=> !E4 f) l (by omega) 113 [] [] H (fun k hk _ Q hq=>B9k l[k] (fl _ (C9d hk)) (vl _ (C9d hk)) H hq)
 rw[B7O]at cc
 unfold A1v at h
 cases hv:l.all E4 with
 |false=>
  rw[hv]at h cc
  simp only[C9f,if_false]at h
  rw[hZ]at e4
  repeat' (first|with_reducible apply C9P|simp only[go_sem,e4]|simp(disch:=omega) only[A0,A9,A3]|(intro hx_;try simp only[A4]at hx_)|with_reducible refine cc _ _ ?_|omega)
  exact D9 (A6D 2) (D0r (hl4 _) h)
 |true=>
  rw[hv]at h cc
  simp only[if_true]at h
  have hw:=hw hv
  have nc:=fun(Q:D→Heap→Prop) (H:Heap)=>A8W (Q:=Q) l fl hlen H
  have bc:=fun(Q:D→Heap→Prop) (H:Heap)=>B1s (Q:=Q) (I8 (D3.intsL l)) (I8 (C6.boolsL l)) H
  rw[A1L (l':=D3.intsL l) (m':=C6.boolsL l) (fun x=>F7 _ _) (fun x=>F7 _ _)]at bc
  cases hm:meetL (D3.intsL l) (C6.boolsL l)with
  |true=>
   rw[hm]at h bc
   simp only[if_true]at h
   rw[hZ]at e4
   repeat' (first|with_reducible apply C9P|simp only[go_sem,e4]|simp(disch:=omega) only[A0,A9,A3]|(intro hx_;try simp only[A4]at hx_)|with_reducible refine cc _ _ ?_|with_reducible refine nc _ _ ?_|with_reducible refine bc _ _ ?_|omega)
   exact D9 (A6D 15) (D0r (hl4 _) h)
  |false=>
   rw[hm]at h bc
   simp only[C9f,if_false]at h
   repeat' (first|with_reducible apply C9P|simp only[go_sem]|simp(disch:=omega) only[A0,A9,A3]|(intro hx_;try simp only[A4]at hx_)|with_reducible refine cc _ _ ?_|with_reducible refine nc _ _ ?_|with_reducible refine bc _ _ ?_|omega)
   rename_i b6
   have h6:=hx_
   clear hx_
   have n46:b4≠b6:=fun e=>by rw[←e,e4]at h6;cases h6
   have c6:(Bs.set b6 (.box [.int .i64 o,.int .i64 0,.nilsl,.int .i64 0,.bool false,.str ⟨#[]⟩,.nilsl])) b6=some (.box [.int .i64 o,.int .i64 0,.nilsl,.int .i64 0,.bool false,.str ⟨#[]⟩,.nilsl]):=A5 _ _
   have c4:(Bs.set b6 (.box [.int .i64 o,.int .i64 0,.nilsl,.int .i64 0,.bool false,.str ⟨#[]⟩,.nilsl])) b4=some (.box Z):=by rw[A8 _ n46];exact e4
   have hle2:H.Le (Bs.set b6 (.box [.int .i64 o,.int .i64 0,.nilsl,.int .i64 0,.bool false,.str ⟨#[]⟩,.nilsl])):=hle.trans (A2 h6)
   have hH6:H b6=none:=hle.none h6
   generalize Bs.set b6 (.box [.int .i64 o,.int .i64 0,.nilsl,.int .i64 0,.bool false,.str ⟨#[]⟩,.nilsl])=Cs at c6 c4 hle2⊢
   refine D1 [4,6,20,21] (fun(p:Nat×Option Nat×Heap)=>[(22,.int .i64 p.1)]) (fun(p:Nat×Option Nat×Heap)=>p.2.2) (fun(p:Nat×Option Nat×Heap)=>p.1≤l.length∧AH 7 Cs b6 (fun x=>[.int .i64 o,.int .i64 0,.nilsl,.int .i64 0,.bool false,.str ⟨#[]⟩,x]) (Rw C1 (l.take p.1)) p.1 p.2.1 p.2.2) (fun(p:Nat×Option Nat×Heap)=>l.length-p.1) ((0,none,Cs)) (⟨C9k _,A11 c6⟩) (by(try simp only[go_sem])<;>(try simp(disch:=omega) [A0])<;>(try omega)) (by first|exact D0q _|exact A2 (by assumption)|exact B4 (by assumption)|simp only[Heap.Le,Heap.set,Heap.del]at* <;>grind) ?_
   rintro Ec rfl ⟨i,ob,Hp⟩ ⟨hi,A⟩
   simp only at hi A
   by_cases hlt:i<l.length
   ·have hkd:decide ((i:Int)<l.length)=true:=C9R (by omega)
    have hti:(i:Int)<l.length:=by omega
    have hmm:=C9d hlt
    repeat' (first|with_reducible apply C9P|simp only[go_sem,hkd,hti,A9 _ _ hlt,C2 _ _ hlt]|simp(disch:=omega) only[A0,A9,A3]|(intro hx_;try simp only[A4]at hx_)|omega)
    rename_i b8
    have h8:=hx_
    clear hx_
    obtain⟨d1,d7,dO,dN⟩:=A.at7 h8 (.box (C1 l[i]))
    refine F4 (fun i'=>.agg (C1 l[i])) [b6,b8] ?_
    have m1:b6∈[b6,b8]:=by simp
    have m7:b8∈[b6,b8]:=by simp
    repeat' (first|with_reducible apply C9P|simp only[go_sem,d1,d7,m1,m7]|simp(disch:=omega) only[A0,A9,A3]|(intro hx_;try simp only[A4]at hx_)|with_reducible refine Q9 (fun H' Q hro hq=>B23 l[i] (fl _ hmm) H' hq) ?_|omega)
    rename_i x
    have hx:=hx_
    clear hx_
    obtain⟨hx7,hxH⟩:=hx
    have hxf:(Hp.set b8 (.box (C1 l[i]))) x=none:=by rw[A8 _ hx7];exact hxH
    obtain⟨hout2,hobx⟩:=A44 dO hxf (.vec 7 [C1 l[i]])
    have hxb:x∉[b6,b8]:=by
     simp only[C9r,C9s,or_false,not_or]
     exact⟨fun e=>(by rw[e,d1]at hxf;cases hxf),hx7⟩
    have hcb: ∀c,ob=some c→c∉[b6,b8]:=fun c e=>by
     simp only[C9r,C9s,or_false,not_or]
     exact⟨(A.fresh c e).2,dN c e⟩
    refine A97 28 96 (n:=i) (m:=1) (bx:=x) (ob:=ob) (es:=Rw C1 (l.take i)) (xs:=[C1 l[i]]) (by simp only[go_sem]) (by decide) (by simp only[go_sem]) (by simp only[go_sem]) (by simp only[go_sem]) (by simp only[go_sem]) (A5 _ _) rfl (by simp) hout2 (Z0 _ _ (by omega)).symm hxb hobx hcb (by simp only[C9U,C9W];omega) (by simp only[C9U,C9W];omega) fun b' hb'=>?_
    rw[E7 hxf]at hb'⊢
    obtain⟨hne',d8',A'⟩:=A.step h8 _ hb' (C1 l[i])
    revert A'
    generalize hHf:((K5 (Hp.set b8 (.box (C1 l[i]))) ob).set b' (.vec 7 (Rw C1 (l.take i)++[C1 l[i]]))).set b6 (.box [.int .i64 o,.int .i64 0,.nilsl,.int .i64 0,.bool false,.str ⟨#[]⟩,.vec b' 7 0 (i+1)])=Hf
    intro A'
    repeat' (first|with_reducible apply C9P|simp only[go_sem,d8',m1]|simp(disch:=omega) only[A0,A9,A3]|(intro hx_;try simp only[A4]at hx_)|omega)
    exact C3 (i+1,some b',Hf) ⟨by simp only[];omega,by simp only[];rw[Q3 l i hlt];exact A'⟩ (by simp only[];omega) (by(try simp only[go_sem])<;>(try simp(disch:=omega) [A0])<;>(try omega)) (by rw[←hHf];exact D0q _)
   ·have hkd:decide ((i:Int)<l.length)=false:=C9S (by omega)
    have hie:i=l.length:=by omega
    have c4':=A.keep b4 _ n46 c4
    rw[C9e (by omega)]at A
    have A1:=A.box
    have o1:=A53 7 i ob
    have fo:FmFit (.mk o 0 nilL D2 l):=R9 (by rcases ho with rfl|rfl<;>simp[W0]) hlen fl
    have vo:VOk (.mk o 0 nilL D2 l):=.inl (by rw[L1];simp only[Fm.l,Fm.ks,nilL,C9W];omega)
    have vv: ∀Q:D→Heap→Prop,Q (.bool (E4 (.mk o 0 nilL D2 l))) Hp→ACalls Tryz.prog 18 [.agg [.int .i64 o,.int .i64 0,.nilsl,.int .i64 0,.bool false,.str ⟨#[]⟩,J4 7 i ob]] Hp Q:=fun Q hq=>
     A3g (args':=[.agg (C1 (.mk o 0 nilL D2 l))]) rfl (fun j d d' h1 h2=>by
      match j with
      |0=>cases h1;cases h2;exact B8v hie A.out
      |j+1=>cases h1) (Q5 _ fo vo _ ⟨rfl,hq⟩)
    cases hvo:E4 (.mk o 0 nilL D2 l)with
    |false=>
     rw[hvo]at h vv
     simp only[C9f,if_false]at h
     rw[hZ]at c4'
     repeat' (first|with_reducible apply C9P|simp only[go_sem,hkd,A1,c4',o1]|simp(disch:=omega) only[A0,A9,A3]|(intro hx_;try simp only[A4]at hx_)|with_reducible refine vv _ ?_|omega)
     exact D9 (A6D 3) (D0r (fun k q hk=>by
      have k4:k≠b4:=fun e=>by rw[e,g4]at hk;cases hk
      rw[A8 _ k4]
      have k6:k≠b6:=fun e=>by rw[e,hH6]at hk;cases hk
      exact A.keep k q k6 (hle2 _ _ hk)) h)
    |true=>
     rw[hvo]at h vv
     simp only[if_true]at h
     rw[hZ]at c4'
     repeat' (first|with_reducible apply C9P|simp only[go_sem,hkd,A1,c4',o1]|simp(disch:=omega) only[A0,A9,A3]|(intro hx_;try simp only[A4]at hx_)|with_reducible refine vv _ ?_|omega)
     exact B9j hie (A.out2 c4 _) (D0r (A.le2 hle2 hH6 g4 _) h)
theorem C6C{Q}(l:List Fm)(fl: ∀f∈l,FmFit f)(hlen:l.length≤1466015503658)(vl: ∀f∈l,VOk f)(hw:l.all E4=true→K7.wtL l≤900000)(H:Heap)(h:Q (.tuple [.agg (C1 (A1v 5 l).1),.int .i64 (A1v 5 l).2]) H):ACalls Tryz.prog 24 [.sl 7 (Rw C1 l)] H Q:=by
 refine B2 [] B3 Tryz.func24 rfl (by kernel_rfl) (C9Q (by kernel_rfl)) (by kernel_rfl) ?_
 simp only[go_sem,Tryz.results24]
 repeat' (first|with_reducible apply C9P|simp only[go_sem]|simp(disch:=omega) only[A3]|intro hx_|with_reducible refine B7P 5 (.inl rfl) l fl hlen vl hw _ ?_|omega)
 exact D0r (A2 (by assumption)) h
theorem C8K{Q}(l:List Fm)(fl: ∀f∈l,FmFit f)(hlen:l.length≤1466015503658)(vl: ∀f∈l,VOk f)(hw:l.all E4=true→K7.wtL l≤900000)(H:Heap)(h:Q (.tuple [.agg (C1 (A1v 6 l).1),.int .i64 (A1v 6 l).2]) H):ACalls Tryz.prog 26 [.sl 7 (Rw C1 l)] H Q:=by
 refine B2 [] B3 Tryz.func26 rfl (by kernel_rfl) (C9Q (by kernel_rfl)) (by kernel_rfl) ?_
 simp only[go_sem,Tryz.results26]
 repeat' (first|with_reducible apply C9P|simp only[go_sem]|simp(disch:=omega) only[A3]|intro hx_|with_reducible refine B7P 6 (.inr rfl) l fl hlen vl hw _ ?_|omega)
 exact D0r (A2 (by assumption)) h
theorem B7Q{Q}(vs:List VlV)(k:Fm)(b:Nat)(H:Heap)(hb:H b=some (.box [.sl 2 (Rw vlC vs)]))(hS: ∀(Q:D→Heap→Prop) (H:Heap),Q (.bool (K3 k vs)) H→ACalls Tryz.prog 63 [.agg (C1 k),.sl 2 (Rw vlC vs)] H Q)(h:Q (.bool (!K3 k vs)) H):ACalls Tryz.prog 109 [.agg (C1 k),.box b 0] H Q:=by
 refine B2 [] B3 Tryz.func109 rfl (by kernel_rfl) (C9Q (by kernel_rfl)) (by kernel_rfl) ?_
 simp only[go_sem,Tryz.results109]
 intro b2 h2
 have n2:b≠b2:=fun e=>by rw[←e,hb]at h2;cases h2
 have e1:(H.set b2 (.box (C1 k))) b=some (.box [.sl 2 (Rw vlC vs)]):=by rw[A8 _ n2];exact hb
 have e2:(H.set b2 (.box (C1 k))) b2=some (.box (C1 k)):=A5 _ _
 have hle:H.Le (H.set b2 (.box (C1 k))):=A2 h2
 generalize H.set b2 (.box (C1 k))=Bs at e1 e2 hle⊢
 repeat' (first|with_reducible apply C9P|simp only[go_sem,e1,e2]|simp(disch:=omega) only[A3]|intro hx_|with_reducible refine hS _ _ ?_|omega)
 exact D0r hle h
theorem B7R{Q}(vs:List VlV)(k:Fm)(b:Nat)(H:Heap)(hb:H b=some (.box [.sl 2 (Rw vlC vs)]))(hS: ∀(Q:D→Heap→Prop) (H:Heap),Q (.bool (K3 k vs)) H→ACalls Tryz.prog 63 [.agg (C1 k),.sl 2 (Rw vlC vs)] H Q)(h:Q (.bool (K3 k vs)) H):ACalls Tryz.prog 110 [.agg (C1 k),.box b 0] H Q:=by
 refine B2 [] B3 Tryz.func110 rfl (by kernel_rfl) (C9Q (by kernel_rfl)) (by kernel_rfl) ?_
 simp only[go_sem,Tryz.results110]
 intro b2 h2
 have n2:b≠b2:=fun e=>by rw[←e,hb]at h2;cases h2
 have e1:(H.set b2 (.box (C1 k))) b=some (.box [.sl 2 (Rw vlC vs)]):=by rw[A8 _ n2];exact hb
 have e2:(H.set b2 (.box (C1 k))) b2=some (.box (C1 k)):=A5 _ _
 have hle:H.Le (H.set b2 (.box (C1 k))):=A2 h2
 generalize H.set b2 (.box (C1 k))=Bs at e1 e2 hle⊢
 repeat' (first|with_reducible apply C9P|simp only[go_sem,e1,e2]|simp(disch:=omega) only[A3]|intro hx_|with_reducible refine hS _ _ ?_|omega)
 exact D0r hle h
theorem B7S(l:List Fm)(p:Fm→Bool):(!l.any fun k=> !p k)=l.all p:=by
 induction l with
 |nil=>rfl
 |cons x l ih=>rw[D0U,D0S,←ih];cases p x<;>simp
theorem B9l(vs:List VlV)(fv:A4U vs)(hv:M2 vs=true)(n:Nat): ∀{Q} (f:Fm) (hn:SizeOf.sizeOf f≤n) (hf:G7 D5 f=true) (fa:FmFit f) (H:Heap) (h:Q (.bool (K3 f vs)) H),ACalls Tryz.prog 63 [.agg (C1 f),.sl 2 (Rw vlC vs)] H Q:=by
 induction n with
 |zero=>intro Q f hn;cases f;simp at hn
 |succ n ih=>
 intro Q f hn hf fa H h
 refine B2 [] B3 Tryz.func63 rfl (by kernel_rfl) (C9Q (by kernel_rfl)) (by kernel_rfl) ?_
 simp only[go_sem,Tryz.results63]
 have hkl:=fa.kl
 have hvl:=fv.len
 have hkid: ∀k∈f.ks,∀(Q:D→Heap→Prop) (H:Heap),Q (.bool (K3 k vs)) H→ACalls Tryz.prog 63 [.agg (C1 k),.sl 2 (Rw vlC vs)] H Q:=fun k hk Q H hq=>ih k (by have:=A0O hk;omega) (N8 hf hk) (fa.kid hk) H hq
 intro b2 g2 b3 g3
 simp only[A4]at g3
 have n23:b2≠b3:=fun e=>g3.1 e.symm
 have e2:((H.set b2 (.box (C1 f))).set b3 (.box [.sl 2 (Rw vlC vs)])) b2=some (.box (C1 f)):=by rw[A8 _ n23,A5]
 have e3:((H.set b2 (.box (C1 f))).set b3 (.box [.sl 2 (Rw vlC vs)])) b3=some (.box [.sl 2 (Rw vlC vs)]):=A5 _ _
 have hle:H.Le ((H.set b2 (.box (C1 f))).set b3 (.box [.sl 2 (Rw vlC vs)])):=(A2 g2).trans (A2 (by simp only[A4];exact g3))
 generalize (H.set b2 (.box (C1 f))).set b3 (.box [.sl 2 (Rw vlC vs)])=Bs at e2 e3 hle⊢
 cases Q4 hf with
 |con m hm=>
  rw[C28 _ rfl]at h
  simp only[Fm.n]at h
  repeat' (first|with_reducible apply C9P|simp only[go_sem,e2]|simp(disch:=omega) only[A3]|(intro hx_;try simp only[A4]at hx_)|omega)
  exact D0r hle h
 |lin l hl hp=>
  rw[C29 _ rfl]at h
  simp only[Fm.l]at h
  obtain⟨T,K,E⟩:=l
  have tc:=fun(Q:D→Heap→Prop) (H:Heap)=>B85 (Q:=Q) ⟨T,K,E⟩ hl vs hv (by omega) H
  generalize (J0 K T vs).getD 0=z at h tc
  unfold y8 at h
  repeat' (first|with_reducible apply C9P|simp only[go_sem,e2,e3]|simp(disch:=omega) only[A3]|(intro hx_;try simp only[A4]at hx_)|with_reducible refine tc _ _ ?_|omega)
  all_goals (refine D0r hle ?_;simp_all)
 |var s hp=>
  rw[C8H _ rfl]at h
  simp only[Fm.s]at h
  repeat' (first|with_reducible apply C9P|simp only[go_sem,e2,e3]|simp(disch:=omega) only[A3]|(intro hx_;try simp only[A4]at hx_)|with_reducible refine A99 vs hv s (by omega) _ ?_|omega)
  exact D0r hle h
 |not k=>
  rw[C3A _ rfl rfl]at h
  have r0:(Rw C1 [k]).getD 0 []=C1 k:=rfl
  have kc:=hkid k (C9a ..)
  repeat' (first|with_reducible apply C9P|simp only[go_sem,e2,e3,r0]|simp(disch:=omega) only[A3]|(intro hx_;try simp only[A4]at hx_)|with_reducible refine kc _ _ ?_|omega)
  all_goals first
   |exact D0r hle h
   |decide
   |omega
 |and ks=>
  rw[B65 _ rfl]at h
  simp only[Fm.ks]at h hkid hkl
  have cc:=A8T (Q:=fun d G=>d= .bool (ks.any fun k=> !K3 k vs)∧G=Bs) (fun k=> !K3 k vs) ks (by omega) 109 [] [.box b3 0] Bs (fun k hk _ Q hq=>B7Q vs ks[k] b3 Bs e3 (hkid _ (C9d hk)) hq) ⟨rfl,rfl⟩
  have cc2: ∀(Q:D→Heap→Prop),Q (.bool (ks.any fun k=> !K3 k vs)) Bs→ACalls Tryz.prog 108 [.sl 7 (Rw C1 ks),.fn (.func 109) [] [.box b3 0]] Bs Q:=fun Q hq=>cc.mono fun d G ⟨h1,h2⟩=>by rw[h1,h2];exact hq
  rw[←B7S]at h
  repeat' (first|with_reducible apply C9P|simp only[go_sem,e2,e3]|simp(disch:=omega) only[A3]|(intro hx_;try simp only[A4]at hx_)|with_reducible refine cc2 _ ?_|omega)
  exact D0r hle h
 |or ks=>
  rw[B4I _ rfl]at h
  simp only[Fm.ks]at h hkid hkl
  have cc2:=fun(Q:D→Heap→Prop)=>A8T (Q:=Q) (fun k=>K3 k vs) ks (by omega) 110 [] [.box b3 0] Bs (fun k hk _ Q hq=>B7R vs ks[k] b3 Bs e3 (hkid _ (C9d hk)) hq)
  repeat' (first|with_reducible apply C9P|simp only[go_sem,e2,e3]|simp(disch:=omega) only[A3]|(intro hx_;try simp only[A4]at hx_)|with_reducible refine cc2 _ ?_|omega)
  exact D0r hle h
theorem B9m{Q}(vs:List VlV)(fv:A4U vs)(hv:M2 vs=true)(f:Fm)(hf:G7 D5 f=true)(fa:FmFit f)(H:Heap)(h:Q (.bool (K3 f vs)) H):ACalls Tryz.prog 63 [.agg (C1 f),.sl 2 (Rw vlC vs)] H Q:=B9l vs fv hv _ f (C9j _) hf fa H h
theorem C3O{Q}(f:Fm)(fa:FmFit f)(vo:VOk f)(vs:List VlV)(fv:A4U vs)(H:Heap)(h:Q (.tuple [.bool (atF f vs).1,.int .i64 (atF f vs).2]) H):ACalls Tryz.prog 22 [.agg (C1 f),.sl 2 (Rw vlC vs)] H Q:=by
 refine B2 [] B3 Tryz.func22 rfl (by kernel_rfl) (C9Q (by kernel_rfl)) (by kernel_rfl) ?_
 simp only[go_sem,Tryz.results22]
 have hvl:=fv.len
 intro b2 g2
 have e2:(H.set b2 (.box (C1 f))) b2=some (.box (C1 f)):=A5 _ _
 have hle:H.Le (H.set b2 (.box (C1 f))):=A2 g2
 generalize H.set b2 (.box (C1 f))=Bs at e2 hle⊢
 have vc:=fun(Q:D→Heap→Prop) (H:Heap)=>Q5 (Q:=Q) f fa vo H
 have wc:=fun(Q:D→Heap→Prop) (H:Heap)=>B5l (Q:=Q) vs fv H
 unfold atF at h
 cases hf:E4 f with
 |false=>
  rw[hf]at h vc
  simp only[C9f,false_and,if_false]at h
  repeat' (first|with_reducible apply C9P|simp only[go_sem,e2]|simp(disch:=omega) only[A0,A3]|intro hx_|with_reducible refine vc _ _ ?_|omega)
  exact D0r hle h
 |true=>
  cases hv:M2 vs with
  |false=>
   rw[hf]at h vc
   rw[hv]at h wc
   simp only[C9f,and_false,if_false]at h
   repeat' (first|with_reducible apply C9P|simp only[go_sem,e2]|simp(disch:=omega) only[A0,A3]|intro hx_|with_reducible refine vc _ _ ?_|with_reducible refine wc _ _ ?_|omega)
   exact D0r hle h
  |true=>
   rw[hf]at h vc
   rw[hv]at h wc
   simp only[and_self,if_true]at h
   have hcl: ∀m,(D.fm m).cells= [D.fm m]:=fun _=>rfl
   repeat' (first|with_reducible apply C9P|simp only[go_sem,e2,hcl]|simp(disch:=omega) only[A0,A3]|intro hx_|with_reducible refine vc _ _ ?_|with_reducible refine wc _ _ ?_|with_reducible refine A3a (by assumption) f fa rfl ?_|omega)
   rename_i b32
   have h32:=hx_
   clear hx_
   have hle2:H.Le (Bs.set b32 (.vec 1 [[.fm (C9 tt (I8 (D3 f)))],[.fm (C9 tt (I8 (C6 f)))]])):=hle.trans (A2 h32)
   have n2:b2≠b32:=fun e=>by rw[←e,e2]at h32;cases h32
   have c2:(Bs.set b32 (.vec 1 [[.fm (C9 tt (I8 (D3 f)))],[.fm (C9 tt (I8 (C6 f)))]])) b2=some (.box (C1 f)):=by rw[A8 _ n2];exact e2
   have c32:(Bs.set b32 (.vec 1 [[.fm (C9 tt (I8 (D3 f)))],[.fm (C9 tt (I8 (C6 f)))]])) b32=some (.vec 1 [[.fm (C9 tt (I8 (D3 f)))],[.fm (C9 tt (I8 (C6 f)))]]):=A5 _ _
   generalize Bs.set b32 (.vec 1 [[.fm (C9 tt (I8 (D3 f)))],[.fm (C9 tt (I8 (C6 f)))]])=Cs at c2 c32 hle2⊢
   refine D1 [1,2,7,32,33] (fun(j:Nat)=>[(34,.int .i64 j)]) (fun(j:Nat)=>Cs) (fun(j:Nat)=>j≤2∧(0<j→∀s∈D3 f,(L4 vs s).isSome=true)∧(1<j→∀s∈C6 f,(L4 vs s).isSome=true)) (fun(j:Nat)=>2-j) (0) (⟨C9k _,fun h=>absurd h (by decide),fun h=>absurd h (by decide)⟩) (by(try simp only[go_sem])<;>(try simp(disch:=omega) [A0])<;>(try omega)) (by first|exact D0q _|exact A2 (by assumption)|exact B4 (by assumption)|simp only[Heap.Le,Heap.set,Heap.del]at* <;>grind) ?_
   rintro Ec rfl j ⟨hj,hi1,hi2⟩
   by_cases hjt:j<2
   ·have hkd:decide ((j:Int)<2)=true:=C9R (by omega)
    have hj2:(j:Int)<2:=by omega
    obtain⟨ks,hks,hget,hnx,hko⟩: ∃ks:List ByteArray,([[D.fm (C9 tt (I8 (D3 f)))],[.fm (C9 tt (I8 (C6 f)))]]).getD j []= [.fm (C9 tt ks)]∧([[D.fm (C9 tt (I8 (D3 f)))],[.fm (C9 tt (I8 (C6 f)))]])[j]? =some [.fm (C9 tt ks)]∧
      ((∀s∈ks,(L4 vs s).isSome=true)→(0<j+1→∀s∈D3 f,(L4 vs s).isSome=true)∧(1<j+1→∀s∈C6 f,(L4 vs s).isSome=true))∧(∀s∈ks,(L4 vs s).isSome=false→A2y f vs=false):=by
     match j,hjt with
     |0,_=>exact⟨I8 (D3 f),rfl,rfl,fun h=>⟨fun _ s hs=>h s ((F7 _ _).2 hs),fun h=>absurd h (by decide)⟩,fun s hs hn=>by
       rw[←D0l,A0y];intro g;rw[g s (.inl ((F7 _ _).1 hs))]at hn;cases hn⟩
     |1,_=>exact⟨I8 (C6 f),rfl,rfl,fun h=>⟨fun _=>hi1 (by decide),fun _ s hs=>h s ((F7 _ _).2 hs)⟩,fun s hs hn=>by
       rw[←D0l,A0y];intro g;rw[g s (.inr ((F7 _ _).1 hs))]at hn;cases hn⟩
    have hkl:(C9 tt ks).length=ks.length:=by simp[C9]
    repeat' (first|with_reducible apply C9P|simp only[go_sem,hkd,hj2,c32,hks,hget]|simp(disch:=omega) only[A0,A3]|intro hx_|omega)
    rename_i b39
    have h39:=hx_
    clear hx_
    refine D1 [1,2,7,32,33,34,39] (fun(s:List Nat)=>[]) (fun(s:List Nat)=>Cs.set b39 (.rng (C9 tt ks) s)) (fun(s:List Nat)=>∀(i:Nat) (hi:i<ks.length),i∈s→(L4 vs ks[i]).isSome=true) (fun(s:List Nat)=>A6A ks.length s) ([]) (fun _ _ h=>absurd h C9s) (by(try simp only[go_sem])<;>(try simp(disch:=omega) [A0])<;>(try omega)) (by first|exact D0q _|exact A2 (by assumption)|exact B4 (by assumption)|simp only[Heap.Le,Heap.set,Heap.del]at* <;>grind) ?_
    rintro Ec2 rfl s hs
    have e39:(Cs.set b39 (.rng (C9 tt ks) s)) b39=some (.rng (C9 tt ks) s):=A5 _ _
    repeat' (first|with_reducible apply C9P|simp only[go_sem,e39]|simp(disch:=omega) only[A0,A3]|intro hx_|omega)
    refine A70 (fun i hi hn=>?_) (fun hall=>?_)
    ·rw[hkl]at hi
     have eg:((Cs.set b39 (.rng (C9 tt ks) s)).set b39 (.rng (C9 tt ks) (s++[i]))) b39=some (.rng (C9 tt ks) (s++[i])):=A5 _ _
     have ek:(C9 tt ks)[i]? =some (.str ks[i],.bool true):=by simp[C9,hi]
     have ek2:(C9 tt ks)[i]'(by rw[hkl];exact hi)=(.str ks[i],.bool true):=by simp[C9]
     have gc:=fun(Q:D→Heap→Prop) (H:Heap)=>A99 (Q:=Q) vs hv ks[i] (by omega) H
     cases hg:(L4 vs ks[i]).isSome with
     |true=>
      rw[hg]at gc
      repeat' (first|with_reducible apply C9P|simp only[go_sem,eg,ek,ek2,List.getLast?_concat]|simp(disch:=omega) only[A0,A3]|intro hx_|with_reducible refine gc _ _ ?_|omega)
      refine C3 (s++[i]) (fun q hq hm=>?_) (A1u hi hn) (by(try simp only[go_sem])<;>(try simp(disch:=omega) [A0])<;>(try omega)) (D0q _)
      rcases C9p.1 hm with z|z
      ·exact hs q hq z
      ·rw[C9q]at z;subst z;exact hg
     |false=>
      rw[hg]at gc
      rw[hko _ (C9d hi) hg]at h
      simp only[C9f,if_false]at h
      repeat' (first|with_reducible apply C9P|simp only[go_sem,eg,ek,ek2,List.getLast?_concat]|simp(disch:=omega) only[A0,A3]|intro hx_|with_reducible refine gc _ _ ?_|omega)
      refine D0r ?_ h
      refine hle2.trans ?_
      exact A2 h39
    ·have hk2: ∀s∈ks,(L4 vs s).isSome=true:=fun x hx=>by
      obtain⟨i,hi,rfl⟩:=List.getElem_of_mem hx
      exact hs i hi (hall i (by rw[hkl];exact hi))
     repeat' (first|with_reducible apply C9P|simp only[go_sem]|simp(disch:=omega) only[A0,A3]|intro hx_|omega)
     exact C3 (j+1) ⟨by omega,hnx hk2⟩ (by omega) (by(try simp only[go_sem])<;>(try simp(disch:=omega) [A0])<;>(try omega)) (A2 h39)
   ·have hkd:decide ((j:Int)<2)=false:=C9S (by omega)
    have hkn:A2y f vs=true:=(A0y f vs).2 fun s hs=>hs.elim (hi1 (by omega) s) (hi2 (by omega) s)
    rw[hkn]at h
    simp only[if_true]at h
    obtain⟨ks,hks⟩: ∃ks,ks=I8 (C6 f):=⟨_,rfl⟩
    have hkl:(C9 tt ks).length=ks.length:=by simp[C9]
    rw[←hks]
    repeat' (first|with_reducible apply C9P|simp only[go_sem,hkd]|simp(disch:=omega) only[A0,A3]|intro hx_|omega)
    rename_i b54
    have h54:=hx_
    clear hx_
    refine D1 [1,2,54] (fun(s:List Nat)=>[]) (fun(s:List Nat)=>Cs.set b54 (.rng (C9 tt ks) s)) (fun(s:List Nat)=>∀(i:Nat) (hi:i<ks.length),i∈s→((L4 vs ks[i]).getD 0=0∨(L4 vs ks[i]).getD 0=1)) (fun(s:List Nat)=>A6A ks.length s) ([]) (fun _ _ h=>absurd h C9s) (by(try simp only[go_sem])<;>(try simp(disch:=omega) [A0])<;>(try omega)) (by first|exact D0q _|exact A2 (by assumption)|exact B4 (by assumption)|simp only[Heap.Le,Heap.set,Heap.del]at* <;>grind) ?_
    rintro Ec2 rfl s hs
    have e54:(Cs.set b54 (.rng (C9 tt ks) s)) b54=some (.rng (C9 tt ks) s):=A5 _ _
    have n54:b2≠b54:=fun e=>by rw[←e,c2]at h54;cases h54
    have e254:(Cs.set b54 (.rng (C9 tt ks) s)) b2=some (.box (C1 f)):=by rw[A8 _ n54];exact c2
    repeat' (first|with_reducible apply C9P|simp only[go_sem,e54]|simp(disch:=omega) only[A0,A3]|intro hx_|omega)
    refine A70 (fun i hi hn=>?_) (fun hall=>?_)
    ·rw[hkl]at hi
     have eg:((Cs.set b54 (.rng (C9 tt ks) s)).set b54 (.rng (C9 tt ks) (s++[i]))) b54=some (.rng (C9 tt ks) (s++[i])):=A5 _ _
     have ek:(C9 tt ks)[i]? =some (.str ks[i],.bool true):=by simp[C9,hi]
     have ek2:(C9 tt ks)[i]'(by rw[hkl];exact hi)=(.str ks[i],.bool true):=by simp[C9]
     have gc:=fun(Q:D→Heap→Prop) (H:Heap)=>A99 (Q:=Q) vs hv ks[i] (by omega) H
     obtain⟨v,hvv⟩: ∃v,v=(L4 vs ks[i]).getD 0:=⟨_,rfl⟩
     rw[←hvv]at gc
     have nxt:(v=0∨v=1)→∀(j:Nat) (hj:j<ks.length),j∈s++[i]→((L4 vs ks[j]).getD 0=0∨(L4 vs ks[j]).getD 0=1):=fun hv01 q hq hm=>by
      rcases C9p.1 hm with z|z
      ·exact hs q hq z
      ·rw[C9q]at z;subst z;rw[←hvv];exact hv01
     by_cases v0:v=0
     ·repeat' (first|with_reducible apply C9P|simp only[go_sem,eg,ek,ek2,List.getLast?_concat,v0]|simp(disch:=omega) only[A0,A3]|intro hx_|with_reducible refine gc _ _ ?_|omega)
      exact C3 (s++[i]) (nxt (.inl v0)) (A1u hi hn) (by(try simp only[go_sem])<;>(try simp(disch:=omega) [A0])<;>(try omega)) (by simp only[Go.Av.Heap.Le,Go.Av.Heap.set,Go.Av.Heap.del]at* <;>grind)
     ·by_cases v1:v=1
      ·repeat' (first|with_reducible apply C9P|simp only[go_sem,eg,ek,ek2,List.getLast?_concat,v1]|simp(disch:=omega) only[A0,A3]|intro hx_|with_reducible refine gc _ _ ?_|omega)
       exact C3 (s++[i]) (nxt (.inr v1)) (A1u hi hn) (by(try simp only[go_sem])<;>(try simp(disch:=omega) [A0])<;>(try omega)) (by simp only[Go.Av.Heap.Le,Go.Av.Heap.set,Go.Av.Heap.del]at* <;>grind)
      ·have hb:Go.Fo.bits f vs=false:=by
        rw[←D0l,A3c];intro g
        have:=g ks[i] ((F7 _ _).1 (by rw[←hks];exact C9d hi))
        rw[←hvv]at this;omega
       rw[hb]at h
       simp only[C9f,if_false]at h
       repeat' (first|with_reducible apply C9P|simp only[go_sem,eg,ek,ek2,List.getLast?_concat,v0,v1]|simp(disch:=omega) only[A0,A3]|intro hx_|with_reducible refine gc _ _ ?_|omega)
       refine D0r ?_ h
       refine hle2.trans ?_
       exact A2 h54
    ·have hb:Go.Fo.bits f vs=true:=(A3c f vs).2 fun x hx=>by
      have hx2:x∈ks:=by rw[hks];exact(F7 _ _).2 hx
      obtain⟨i,hi,rfl⟩:=List.getElem_of_mem hx2
      exact hs i hi (hall i (by rw[hkl];exact hi))
     rw[hb]at h
     simp only[if_true]at h
     repeat' (first|with_reducible apply C9P|simp only[go_sem,e254]|simp(disch:=omega) only[A0,A3]|intro hx_|with_reducible refine B9m vs fv hv f (L5 hf) fa _ ?_|omega)
     exact D0r (hle2.trans (A2 h54)) h
end Go.Proofs.YtibphjonmikciaaGreatDoor
namespace Go.Fo
open Go Go.Av Go.Lexs Go.Lin
abbrev fxT:ByteArray:=⟨#[38,40,120,45,49,62,61,48,44,32,124,40,120,45,51,61,48,44,32,33,63,98,41,41]⟩
abbrev C6D:ByteArray:=⟨#[124,40,45,120,62,61,48,44,32,38,40,124,40,120,45,52,62,61,48,44,32,45,120,43,50,62,61,48,41,44,32,63,98,41,41]⟩
abbrev B9n:ByteArray:=⟨#[120,62,61,48]⟩
def fxO:Fm:=.mk 6 0 nilL D2 []
theorem B7U:S (D7 fxF)=fxT∧S (D7 fxN)=C6D:=by rw[A8Z,B69];exact⟨rfl,rfl⟩
theorem A7e:A2x (B fxT)=(fxF,0)∧A2x (B B9n)=(fxP,0):=by
 have e1:B fxT=D7 fxF:=by rw[A8Z];rfl
 have e2:B B9n=D7 fxP:=by rw[B0Z];rfl
 rw[e1,e2]
 exact⟨A59 P9.1 (by rw[A8Z];decide),A59 P9.2.1 (by rw[B0Z];decide)⟩
theorem B1w:E4 fxP=true∧FmFit fxP∧VOk fxP:=⟨P9.2.1,(V8 _ A1w.2.1).2,.inl (by have:=B0h.2.1;omega)⟩
theorem A4I:E4 fxN=true∧FmFit fxN∧VOk fxN:=⟨P9.2.2.1,(V8 _ A1w.2.2.1).2,.inl (by have:=B0h.2.2.1;omega)⟩
theorem B1x:E4 fxA=true∧FmFit fxA∧VOk fxA:=⟨P9.2.2.2,(V8 _ A1w.2.2.2.1).2,.inl (by have:=B0h.2.2.2;omega)⟩
theorem A6N:A4U fxVals:=⟨by decide,by decide+kernel,fun x hx=>by
 have key: ∀x∈fxVals,x.n.natAbs≤10:=by decide+kernel
 have:=key x hx
 unfold W0;omega⟩
theorem C6E:C1 fxO= [.int .i64 6,.int .i64 0,.sl 2 [],.int .i64 0,.bool false,.str D2,.sl 7 []]:=rfl
theorem B0k{s:ByteArray}(h:s.size≤1000)(ha: ∀c∈B s,c.toNat<128):s.size≤20000→∀k,Go.Proofs.YtibphjonmikciaaGreatDoor.A6F ((B s).drop k):=fun _ k=>Go.Proofs.YtibphjonmikciaaGreatDoor.B1u (by rw[C9x,Y7];omega) fun c hc=>ha c (List.mem_of_mem_drop hc)
end Go.Fo
namespace Go.Proofs.YtibphjonmikciaaGreatDoor
open Go Go.Av Go.Lexs Go.Lin Go.Fo
attribute [local irreducible] ACalls W4
theorem C6F{Q}(H:Heap)(hT:Tabs H)(h:Q (.tuple [.str fxT,.int .i64 0]) H):ACalls Tryz.prog 27 [.agg (C1 fxF)] H Q:=
 A8d fxF J6.2.1 J6.2.2.1 H hT (by rw[if_pos J6.1,if_pos J6.1,B7U.1];exact h)
theorem C3P{Q}(H:Heap)(hT:Tabs H)(h:Q (.tuple [.str C6D,.int .i64 0]) H):ACalls Tryz.prog 27 [.agg (C1 fxN)] H Q:=
 A8d fxN A4I.2.1 A4I.2.2 H hT (by rw[if_pos A4I.1,if_pos A4I.1,B7U.2];exact h)
theorem C3Q{Q}(H:Heap)(hT:Tabs H)(h:Q (.tuple [.agg (C1 fxF),.int .i64 0]) H):ACalls Tryz.prog 29 [.str fxT] H Q:=
 B0j fxT (B0k (by decide) (by decide)) H hT (by rw[A7e.1];exact h)
theorem B9o{Q}(H:Heap)(hT:Tabs H)(h:Q (.tuple [.agg (C1 fxP),.int .i64 0]) H):ACalls Tryz.prog 29 [.str B9n] H Q:=
 B0j B9n (B0k (by decide) (by decide)) H hT (by rw[A7e.2];exact h)
theorem C8L{Q}(H:Heap)(h:Q (.tuple [.bool true,.int .i64 0]) H):ACalls Tryz.prog 37 [.agg (C1 fxF),.agg (C1 fxP)] H Q:=
 B9d fxF fxP J6.2.1 B1w.2.1 J6.2.2.1 B1w.2.2 J6.1 B1w.1 A8f.1 A8f.2.1 false A4G.2.2.1 (V8 _ A1w.2.2.2.2.2.2.2.1).1 H h
theorem C8M{Q}(H:Heap)(h:Q (.tuple [.agg (C1 fxN),.int .i64 0]) H):ACalls Tryz.prog 16 [.agg (C1 fxF)] H Q:=
 C0w fxF J6.2.1 J6.2.2.1 H (by rw[C3B];exact h)
theorem C8N{Q}(H:Heap)(h:Q (.tuple [.bool true,.int .i64 0]) H):ACalls Tryz.prog 31 [.agg (C1 fxF)] H Q:=
 B7I fxF J6.2.1 J6.2.2.1 J6.1 true A4G.1 H h
theorem C6G{Q}(H:Heap)(h:Q (.tuple [.bool false,.int .i64 0]) H):ACalls Tryz.prog 31 [.agg (C1 fxA)] H Q:=
 B7I fxA B1x.2.1 B1x.2.2 B1x.1 false A4G.2.1 H h
theorem C8O{Q}(H:Heap)(h:Q (.tuple [.agg (C1 fxA),.int .i64 0]) H):ACalls Tryz.prog 24 [.sl 7 (Rw C1 [fxF,fxN])] H Q:=
 C6C [fxF,fxN] (fun f hf=>by simp only[C9r,C9s,or_false]at hf;rcases hf with rfl|rfl;exact J6.2.1;exact A4I.2.1) (by decide)
  (fun f hf=>by simp only[C9r,C9s,or_false]at hf;rcases hf with rfl|rfl;exact J6.2.2.1;exact A4I.2.2) (fun _=>by have:=B0h;simp only[K7.wtL];omega) H (by rw[C3C];exact h)
theorem xOr{Q}(H:Heap)(h:Q (.tuple [.agg (C1 fxO),.int .i64 0]) H):ACalls Tryz.prog 26 [.sl 7 []] H Q:=
 C8K [] (fun f hf=>by cases hf) (by decide) (fun f hf=>by cases hf) (fun _=>by simp only[K7.wtL];omega) H (by rw[C59];exact h)
theorem xAt{Q}(H:Heap)(h:Q (.tuple [.bool true,.int .i64 0]) H):ACalls Tryz.prog 22 [.agg (C1 fxF),.sl 2 (Rw vlC fxVals)] H Q:=
 C3O fxF J6.2.1 J6.2.2.1 fxVals A6N H (by rw[C58];exact h)
theorem C6H{Q}(H:Heap)(h:Q (.tuple [.sl 1 (Rw j7 [nX]),.sl 1 (Rw j7 [nB]),.int .i64 0]) H):ACalls Tryz.prog 14 [.agg (C1 fxF)] H Q:=
 C26 fxF J6.2.1 J6.2.2.1 H (by rw[if_pos J6.1,B27.1,B27.2];exact h)
theorem C6I{Q}(H:Heap)(h:Q (.tuple [.bool true,.int .i64 0]) H):ACalls Tryz.prog 38 [.agg (C1 fxF),.agg (C1 fxF)] H Q:=
 B9e fxF J6.2.1 J6.2.2.1 J6.1 A8f.2.2.1 A8f.2.2.2 A4G.2.2.2.1 (V8 _ A1w.2.2.2.2.2.2.2.2.1).1 H h
theorem B7V{Q}(H:Heap)(h:Q (.bool true) H):ACalls Tryz.prog 18 [.agg (C1 fxF)] H Q:=
 Q5 fxF J6.2.1 J6.2.2.1 H (by rw[J6.1];exact h)
set_option maxHeartbeats 4000000 in
theorem A00{Q}(H:Heap)(hT:Tabs H)(h:Q (.bool true) H):ACalls Tryz.prog 13 [] H Q:=by
 refine B2 [(15,.par)] B3 Tryz.func13 rfl (by kernel_rfl) (C9Q (by kernel_rfl)) (by kernel_rfl) ?_
 simp only[go_sem,Tryz.results13]
 have hle0:=D0q H
 repeat' (first|with_reducible apply C9P|simp only[go_sem]|simp(disch:=omega) only[A3]|simp(disch:=first|omega|grind) only[A6]|intro hx_|with_reducible refine A7c _ ?_|with_reducible refine C6F _ hT ?_|with_reducible refine C3Q _ hT ?_|omega)
 rename_i b3
 have hb3:=hx_
 clear hx_
 have eb3:(H.set b3 (.box (C1 fxF))) b3=some (.box (C1 fxF)):=A5 _ _
 have hle1:=hle0.trans (A2 (o:=.box (C1 fxF)) hb3)
 have hT1:=hT.le hle1
 generalize H.set b3 (.box (C1 fxF))=H1 at eb3 hle1 hT1⊢
 clear hb3
 repeat' (first|with_reducible apply C9P|simp only[go_sem,eb3]|simp(disch:=omega) only[A3]|simp(disch:=first|omega|grind) only[A6]|intro hx_|with_reducible refine B7K _ ?_|with_reducible refine B9o _ hT1 ?_|omega)
 rename_i b7
 have hb7:=hx_
 clear hx_
 have eb7:(H1.set b7 (.box (C1 fxP))) b7=some (.box (C1 fxP)):=A5 _ _
 have eb3:=(A2 (o:=.box (C1 fxP)) hb7) _ _ eb3
 have hle2:=hle1.trans (A2 (o:=.box (C1 fxP)) hb7)
 have hT2:=hT.le hle2
 generalize H1.set b7 (.box (C1 fxP))=H2 at eb3 eb7 hle2 hT2⊢
 clear hb7
 repeat' (first|with_reducible apply C9P|simp only[go_sem,eb3,eb7]|simp(disch:=omega) only[A3]|simp(disch:=first|omega|grind) only[A6]|intro hx_|with_reducible refine C8L _ ?_|with_reducible refine C8M _ ?_|omega)
 rename_i b11
 have hb11:=hx_
 clear hx_
 have eb11:(H2.set b11 (.box (C1 fxN))) b11=some (.box (C1 fxN)):=A5 _ _
 have eb3:=(A2 (o:=.box (C1 fxN)) hb11) _ _ eb3
 have eb7:=(A2 (o:=.box (C1 fxN)) hb11) _ _ eb7
 have hle3:=hle2.trans (A2 (o:=.box (C1 fxN)) hb11)
 have hT3:=hT.le hle3
 generalize H2.set b11 (.box (C1 fxN))=H3 at eb3 eb7 eb11 hle3 hT3⊢
 clear hb11
 repeat' (first|with_reducible apply C9P|simp only[go_sem,eb3,eb7,eb11]|simp(disch:=omega) only[A3]|simp(disch:=first|omega|grind) only[A6]|intro hx_|with_reducible refine C3P _ hT3 ?_|with_reducible refine C8N _ ?_|omega)
 rename_i bx
 have hbx:=hx_
 clear hx_
 refine Q6 (es:=Rw C1 [fxF,fxN]) hbx rfl ?_
 repeat' (first|with_reducible apply C9P|simp only[go_sem,eb3,eb7,eb11]|simp(disch:=omega) only[A3]|simp(disch:=first|omega|grind) only[A6]|intro hx_|with_reducible refine C8O _ ?_|omega)
 rename_i b17
 have hb17:=hx_
 clear hx_
 have eb17:(H3.set b17 (.box (C1 fxA))) b17=some (.box (C1 fxA)):=A5 _ _
 have eb3:=(A2 (o:=.box (C1 fxA)) hb17) _ _ eb3
 have eb7:=(A2 (o:=.box (C1 fxA)) hb17) _ _ eb7
 have eb11:=(A2 (o:=.box (C1 fxA)) hb17) _ _ eb11
 have hle4:=hle3.trans (A2 (o:=.box (C1 fxA)) hb17)
 have hT4:=hT.le hle4
 generalize H3.set b17 (.box (C1 fxA))=H4 at eb3 eb7 eb11 eb17 hle4 hT4⊢
 clear hb17
 repeat' (first|with_reducible apply C9P|simp only[go_sem,eb3,eb7,eb11,eb17]|simp(disch:=omega) only[A3]|simp(disch:=first|omega|grind) only[A6]|intro hx_|with_reducible refine C6G _ ?_|with_reducible refine xAt _ ?_|with_reducible refine C6H _ ?_|with_reducible refine C6I _ ?_|omega)
 refine B0p 7 ?_
 repeat' (first|with_reducible apply C9P|simp only[go_sem,eb3,eb7,eb11,eb17]|simp(disch:=omega) only[A3]|simp(disch:=first|omega|grind) only[A6]|intro hx_|with_reducible refine xOr _ ?_|omega)
 rename_i b28
 have hb28:=hx_
 clear hx_
 have eb28:(H4.set b28 (.box (C1 fxO))) b28=some (.box (C1 fxO)):=A5 _ _
 have eb3:=(A2 (o:=.box (C1 fxO)) hb28) _ _ eb3
 have eb7:=(A2 (o:=.box (C1 fxO)) hb28) _ _ eb7
 have eb11:=(A2 (o:=.box (C1 fxO)) hb28) _ _ eb11
 have eb17:=(A2 (o:=.box (C1 fxO)) hb28) _ _ eb17
 have hle5:=hle4.trans (A2 (o:=.box (C1 fxO)) hb28)
 have hT5:=hT.le hle5
 generalize H4.set b28 (.box (C1 fxO))=H5 at eb3 eb7 eb11 eb17 eb28 hle5 hT5⊢
 clear hb28
 have m3:b3∈[b3,b28]:=by simp
 have m28:b28∈[b3,b28]:=by simp
 have t1:decide ((fxT:ByteArray)=fxT)=true:=C9R rfl
 rw[show C1 fxO=_ from C6E]at eb28
 refine F4 (fun i'=>if i'=12 then .agg (C1 fxF)else if i'=13 then .bool true else if i'=20 then .bool true else if i'=107 then .bool true else .undef) [b3,b28] ?_
 repeat' (first|with_reducible apply C9P|simp only[go_sem,eb3,eb7,eb11,eb17,eb28,m3,m28]|simp(disch:=omega) only[A3]|simp(disch:=first|omega|grind) only[A6]|intro hx_|with_reducible refine Q9 (fun H' Q hro hq=>A7c H' hq) ?_|with_reducible refine Q9 (fun H' Q hro hq=>B7N fxF J6.2.1 H' hq) ?_|with_reducible refine Q9 (fun H' Q hro hq=>B7V H' hq) ?_|omega)
 rename_i bv
 have hbv:=hx_
 clear hx_
 have nbv:bv∉[b3,b28]:=by simp only[C9r,C9s,or_false];rintro(rfl|rfl);rw[eb3]at hbv;cases hbv;rw[eb28]at hbv;cases hbv
 refine C70 (o:=.vec 2 (Rw vlC fxVals)) hbv rfl nbv (fun H' Q hro hb hq=>A0Q hb rfl (B9h fxVals A6N _ hq)) ?_
 repeat' (first|with_reducible apply C9P|simp only[go_sem,eb3,eb7,eb11,eb17,eb28,m3,m28]|simp(disch:=omega) only[A3]|simp(disch:=first|omega|grind) only[A6]|intro hx_|with_reducible refine Q9 (fun H' Q hro hq=>B7V H' hq) ?_|omega)
 exact D0r hle5 h
theorem B7W(f:Fm)(ff:FmFit f): ∀{Q:D→Heap→Prop} (left:Int) (H:Heap) (h:Q (.int .i64 (T5 f left)) H),ACalls Tryz.prog 43 [.agg (C1 f),.int .i64 left] H Q:=by
 induction ff with
 |mk o n l s ks ho hn hl hs hk hf ih=>
 intro Q left H h
 rw[B24]at h
 change Q (.int .i64 (T5.cntK ks (tcF l.t (IntKind.i64.wrap (left-IntKind.i64.wrap (IntKind.i64.wrap (1+s.size / 100)+l.t.length)))))) H at h
 have hcl:=hl.len
 rw[A0 (x:=1+(s.size:Int) / 100) (by omega) (by omega),A0 (x:=1+(s.size:Int) / 100+(l.t.length:Int)) (by omega) (by omega)]at h
 have e:C1 (.mk o n l s ks)= [.int .i64 o,.int .i64 n,.sl 2 (Rw Q7 l.t),.int .i64 l.k,.bool l.e,.str s,.sl 7 (Rw C1 ks)]:=N2 _
 rw[e]
 refine B2 [] B3 Tryz.func43 rfl (by kernel_rfl) (C9Q (by kernel_rfl)) (by kernel_rfl) ?_
 simp only[go_sem,Tryz.results43]
 intro b2 g2
 have e2:(H.set b2 (.box [.int .i64 o,.int .i64 n,.sl 2 (Rw Q7 l.t),.int .i64 l.k,.bool l.e,.str s,.sl 7 (Rw C1 ks)])) b2=some (.box [.int .i64 o,.int .i64 n,.sl 2 (Rw Q7 l.t),.int .i64 l.k,.bool l.e,.str s,.sl 7 (Rw C1 ks)]):=A5 _ _
 have hle:H.Le (H.set b2 (.box [.int .i64 o,.int .i64 n,.sl 2 (Rw Q7 l.t),.int .i64 l.k,.bool l.e,.str s,.sl 7 (Rw C1 ks)])):=A2 g2
 generalize H.set b2 (.box [.int .i64 o,.int .i64 n,.sl 2 (Rw Q7 l.t),.int .i64 l.k,.bool l.e,.str s,.sl 7 (Rw C1 ks)])=Bs at e2 hle⊢
 repeat' (first|with_reducible apply C9P|simp only[go_sem,e2]|simp(disch:=omega) only[A0,A9,A3]|intro hx_|omega)
 refine D1 [2,23,24] (fun(p:Nat×Int)=>[(25,.int .i64 p.1),(1,.int .i64 p.2)]) (fun(p:Nat×Int)=>Bs) (fun(p:Nat×Int)=>p.1≤l.t.length∧tcF (l.t.drop p.1) p.2=tcF l.t (IntKind.i64.wrap (left-(1+(s.size:Int) / 100+l.t.length)))) (fun(p:Nat×Int)=>l.t.length-p.1) ((0,IntKind.i64.wrap (left-(1+(s.size:Int) / 100+l.t.length)))) (⟨C9k _,rfl⟩) (by(try simp only[go_sem])<;>(try simp(disch:=omega) [A0])<;>(try omega)) (by first|exact D0q _|exact A2 (by assumption)|exact B4 (by assumption)|simp only[Heap.Le,Heap.set,Heap.del]at* <;>grind) ?_
 rintro Ec rfl ⟨i,n⟩ ⟨hi,hv⟩
 simp only at hi hv
 by_cases hlt:i<l.t.length
 ·have hkd:decide ((i:Int)<l.t.length)=true:=C9R (by omega)
  have hti:(i:Int)<l.t.length:=by omega
  have hsz:=hl.str _ (C9d hlt)
  repeat' (first|with_reducible apply C9P|simp only[go_sem,hkd,hti,A9 _ _ hlt,C2 _ _ hlt]|simp(disch:=omega) only[A0,A9,A3]|intro hx_|omega)
  rw[C9u hlt,tcF]at hv
  exact C3 (i+1,IntKind.i64.wrap (n-(l.t[i].v.size:Int) / 100)) ⟨by simp only[];omega,hv⟩ (by simp only[];omega) (by(try simp only[go_sem])<;>(try simp(disch:=omega) [A0])<;>(try omega)) (by simp only[Go.Av.Heap.Le,Go.Av.Heap.set,Go.Av.Heap.del]at* <;>grind)
 ·have hkd:decide ((i:Int)<l.t.length)=false:=C9S (by omega)
  rw[List.drop_of_length_le (by omega),tcF]at hv
  rw[←hv]at h
  clear hv
  repeat' (first|with_reducible apply C9P|simp only[go_sem,hkd,e2]|simp(disch:=omega) only[A0,A9,A3]|intro hx_|omega)
  refine D1 [37,38] (fun(p:Nat×Int)=>[(39,.int .i64 p.1),(1,.int .i64 p.2)]) (fun(p:Nat×Int)=>Bs) (fun(p:Nat×Int)=>p.1≤ks.length∧T5.cntK (ks.drop p.1) p.2=T5.cntK ks n) (fun(p:Nat×Int)=>ks.length-p.1) ((0,n)) (⟨C9k _,rfl⟩) (by(try simp only[go_sem])<;>(try simp(disch:=omega) [A0])<;>(try omega)) (by first|exact D0q _|exact A2 (by assumption)|exact B4 (by assumption)|simp only[Heap.Le,Heap.set,Heap.del]at* <;>grind) ?_
  rintro Ec rfl ⟨j,m⟩ ⟨hj,hw⟩
  simp only at hj hw
  by_cases hlt2:j<ks.length
  ·have hkd2:decide ((j:Int)<ks.length)=true:=C9R (by omega)
   have hti2:(j:Int)<ks.length:=by omega
   have hin: ∀{Q:D→Heap→Prop} (left:Int) (H:Heap) (h:Q (.int .i64 (T5 ks[j] left)) H),ACalls Tryz.prog 43 [.agg (C1 ks[j]),.int .i64 left] H Q:=ih ks[j] (C9d hlt2)
   rw[C9u hlt2,T5.cntK]at hw
   by_cases hneg:m<0
   ·rw[if_pos hneg]at hw
    have hd:=C9R hneg
    repeat' (first|with_reducible apply C9P|simp only[go_sem,hkd2,hti2,hneg,hd,A9 _ _ hlt2,C2 _ _ hlt2]|simp(disch:=omega) only[A0,A9,A3]|intro hx_|omega)
    rw[hw]
    exact D0r (hle.trans (A2 (by assumption))) h
   ·rw[if_neg hneg]at hw
    have hd:=C9S hneg
    repeat' (first|with_reducible apply C9P|simp only[go_sem,hkd2,hti2,hneg,hd,A9 _ _ hlt2,C2 _ _ hlt2]|simp(disch:=omega) only[A0,A9,A3]|intro hx_|with_reducible refine hin _ _ ?_|omega)
    exact C3 (j+1,T5 ks[j] m) ⟨by simp only[];omega,hw⟩ (by simp only[];omega) (by(try simp only[go_sem])<;>(try simp(disch:=omega) [A0])<;>(try omega)) (by simp only[Go.Av.Heap.Le,Go.Av.Heap.set,Go.Av.Heap.del]at* <;>grind)
  ·have hkd2:decide ((j:Int)<ks.length)=false:=C9S (by omega)
   rw[List.drop_of_length_le (by omega),T5.cntK]at hw
   repeat' (first|with_reducible apply C9P|simp only[go_sem,hkd2]|simp(disch:=omega) only[A0,A9,A3]|intro hx_|omega)
   rw[hw]
   exact D0r hle h
theorem C3R{Q}(l:List Fm)(hl:l.length≤1466015503658)(fl: ∀f∈l,FmFit f)(H:Heap)(h:Q (.bool (decide (0≤B4F l 600))) H):ACalls Tryz.prog 12 [.sl 7 (Rw C1 l)] H Q:=by
 refine B2 [] B3 Tryz.func12 rfl (by kernel_rfl) (C9Q (by kernel_rfl)) (by kernel_rfl) ?_
 simp only[go_sem,Tryz.results12]
 repeat' (first|with_reducible apply C9P|simp only[go_sem]|simp(disch:=omega) only[A0,A9,A3]|intro hx_|omega)
 refine D1 [6,7] (fun(p:Nat×Int)=>[(8,.int .i64 p.1),(3,.int .i64 p.2)]) (fun(p:Nat×Int)=>H) (fun(p:Nat×Int)=>p.1≤l.length∧B4F (l.drop p.1) p.2=B4F l 600) (fun(p:Nat×Int)=>l.length-p.1) ((0,600)) (⟨C9k _,rfl⟩) (by(try simp only[go_sem])<;>(try simp(disch:=omega) [A0])<;>(try omega)) (by first|exact D0q _|exact A2 (by assumption)|exact B4 (by assumption)|simp only[Heap.Le,Heap.set,Heap.del]at* <;>grind) ?_
 rintro Ec rfl ⟨i,n⟩ ⟨hi,hv⟩
 simp only at hi hv
 by_cases hlt:i<l.length
 ·have hkd:decide ((i:Int)<l.length)=true:=C9R (by omega)
  have hti:(i:Int)<l.length:=by omega
  have hin: ∀{Q:D→Heap→Prop} (left:Int) (H:Heap) (h:Q (.int .i64 (T5 l[i] left)) H),ACalls Tryz.prog 43 [.agg (C1 l[i]),.int .i64 left] H Q:=B7W l[i] (fl _ (C9d hlt))
  rw[C9u hlt,B4F]at hv
  repeat' (first|with_reducible apply C9P|simp only[go_sem,hkd,hti,A9 _ _ hlt,C2 _ _ hlt]|simp(disch:=omega) only[A0,A9,A3]|intro hx_|with_reducible refine hin _ _ ?_|omega)
  exact C3 (i+1,T5 l[i] n) ⟨by simp only[];omega,hv⟩ (by simp only[];omega) (by(try simp only[go_sem])<;>(try simp(disch:=omega) [A0])<;>(try omega)) (by simp only[Go.Av.Heap.Le,Go.Av.Heap.set,Go.Av.Heap.del]at* <;>grind)
 ·have hkd:decide ((i:Int)<l.length)=false:=C9S (by omega)
  rw[List.drop_of_length_le (by omega),B4F]at hv
  rw[←hv]at h
  repeat' (first|with_reducible apply C9P|simp only[go_sem,hkd]|simp(disch:=omega) only[A0,A9,A3]|intro hx_|omega)
  first
   |exact D0u h
   |(rw[show decide (n≥0)=decide (0≤n)from rfl];exact D0u h)
theorem B9p{Q}{b n:Nat}{H0:Heap}(h0:H0 b=none)(f:Fm)(ff:FmFit f)(hn:n=1)(h:Q (.bool (decide (0≤T5 f 600))) H0):ACalls Tryz.prog 12 [.vec b 7 0 n] (H0.set b (.vec 7 [C1 f])) Q:=
 Q6 (es:=Rw C1 [f]) h0 hn (C3R [f] (by simp) (fun x hx=>by rw[C9q]at hx;rw[hx];exact ff) H0 h)
set_option maxHeartbeats 4000000 in
theorem B7X{Q}(f:Fm)(vs:List VlV)(fa:FmFit f)(fv:A4U vs)(H:Heap)(hT:Tabs H)(h:Q (.bool true) H):ACalls Tryz.prog 10 [.agg (C1 f),.sl 2 (Rw vlC vs)] H Q:=by
 refine B2 [] B3 Tryz.func10 rfl (by kernel_rfl) (C9Q (by kernel_rfl)) (by kernel_rfl) ?_
 simp only[go_sem,Tryz.results10]
 intro b2 g2
 have e2:(H.set b2 (.box (C1 f))) b2=some (.box (C1 f)):=A5 _ _
 have hle:H.Le (H.set b2 (.box (C1 f))):=A2 g2
 generalize H.set b2 (.box (C1 f))=Bs at e2 hle⊢
 have hTb:=hT.le hle
 have hvl:=fv.len
 repeat' (first|with_reducible apply C9P|simp only[go_sem,e2]|simp(disch:=omega) only[A3]|intro hx_|omega)
 refine B9p (by assumption) f fa rfl ?_
 by_cases hc:0≤T5 f 600
 ·have vo:=(B9K fa hc).1
  rw[C9R hc]
  by_cases h60:(60:Int)<vs.length
  ·repeat' (first|with_reducible apply C9P|simp only[go_sem,h60]|simp(disch:=omega) only[A3]|intro hx_|with_reducible refine A00 _ hTb ?_|omega)
   exact D0r hle h
  ·have hop:=fun h1 h2=>B68 (f:=f) (vs:=vs) h1 h2
   have ac:=fun(Q:D→Heap→Prop) (H:Heap)=>C3O (Q:=Q) f fa vo vs fv H
   have nc:=fun(Q:D→Heap→Prop) (H:Heap)=>C0w (Q:=Q) f fa vo H
   have nfit:(notF f).2=0→FmFit (notF f).1∧VOk (notF f).1:=fun h2=>by
    unfold notF at h2⊢
    by_cases hv:E4 f=true
    ·rw[if_pos hv]at h2⊢
     have:=A5z f true (L5 hv) fa
     by_cases hw:E4 (normF f true)=true
     ·rw[if_pos hw];exact⟨this.1,.inl (by have:=A6B hw;show K7 (normF f true)≤1000000;omega)⟩
     ·rw[if_neg hw]at h2;cases h2
    ·rw[if_neg hv]at h2;cases h2
   generalize notF f=N at hop nc nfit
   generalize hA:atF f vs=A at hop ac
   obtain⟨nf,ne⟩:=N
   obtain⟨av,ae⟩:=A
   simp only at hop nfit
   by_cases h1:ae=0
   ·subst h1
    by_cases h2:ne=0
    ·subst h2
     have hop:=hop rfl rfl
     obtain⟨n1,n2⟩:=nfit rfl
     repeat' (first|with_reducible apply C9P|simp only[go_sem,h60,e2]|simp(disch:=omega) only[A3]|intro hx_|with_reducible refine ac _ _ ?_|with_reducible refine nc _ _ ?_|omega)
     refine C3O nf n1 n2 vs fv _ ?_
     rw[hop]
     cases av with
     |true=>
      repeat' (first|with_reducible apply C9P|simp only[go_sem]|simp(disch:=omega) only[A3]|intro hx_|with_reducible refine A00 _ (hTb.le (A2 (by assumption))) ?_|omega)
      exact D0r (hle.trans (A2 (by assumption))) h
     |false=>
      repeat' (first|with_reducible apply C9P|simp only[go_sem]|simp(disch:=omega) only[A3]|intro hx_|with_reducible refine A00 _ (hTb.le (A2 (by assumption))) ?_|omega)
      exact D0r (hle.trans (A2 (by assumption))) h
    ·have d2:=C9S h2
     repeat' (first|with_reducible apply C9P|simp only[go_sem,h60,e2,h2,d2]|simp(disch:=omega) only[A3]|intro hx_|with_reducible refine ac _ _ ?_|with_reducible refine nc _ _ ?_|with_reducible refine A00 _ (hTb.le (A2 (by assumption))) ?_|omega)
     exact D0r (hle.trans (A2 (by assumption))) h
   ·have d1:=C9S h1
    repeat' (first|with_reducible apply C9P|simp only[go_sem,h60,e2,h1,d1]|simp(disch:=omega) only[A3]|intro hx_|with_reducible refine ac _ _ ?_|with_reducible refine nc _ _ ?_|with_reducible refine A00 _ (hTb.le (A2 (by assumption))) ?_|omega)
    exact D0r (hle.trans (A2 (by assumption))) h
 ·rw[C9S hc]
  repeat' (first|with_reducible apply C9P|simp only[go_sem]|simp(disch:=omega) only[A3]|intro hx_|with_reducible refine A00 _ hTb ?_|omega)
  exact D0r hle h
end Go.Proofs.YtibphjonmikciaaGreatDoor
end
section
namespace Go.Av
open Go.RowKit Go.ChangeShapes Go.WideShapes
def B0l(P:Program):Nat→List Field→Option Nat
 |o,[]=>some o
 |o,f::r=>if f.offset=o then B0l P (o+P.cellsOf f.type) r else none
def A4J(P:Program)(l:List TypeId)(t:TypeId):Bool:=match P.underlying t with
 |some .bool|some (.int _)|some .string=>decide (P.cellsOf t=1)
 |some (.slice e)=>decide (P.cellsOf t=1)&&l.contains e&&decide (0<P.cellsOf e)&&decide (0<P.bytesOf e)
 |some (.struct fs)=>decide (B0l P 0 fs.toList=some (P.cellsOf t))&&fs.toList.all (fun f=>l.contains f.type)
 |_=>false
def plainB(P:Program)(l:List TypeId):Bool:=l.all (A4J P l)
inductive Z7(P:Program):TypeId→List D→Prop
 |bool {t:TypeId} (b:Bool) (h:P.underlying t=some .bool):Z7 P t [.bool b]
 |int {t:TypeId} {k:IntKind} (n:Int) (h:P.underlying t=some (.int k)) (hw:(Lit.int k n).wf=true):Z7 P t [.int k n]
 |str {t:TypeId} (s:ByteArray) (h:P.underlying t=some .string) (hs:s.size≤reachBytes):Z7 P t [.str s]
 |sl {t e:TypeId} (es:List (List D)) (h:P.underlying t=some (.slice e)) (hl:es.length*P.bytesOf e≤reachBytes) (he: ∀x∈es,Z7 P e x):Z7 P t [.sl (P.cellsOf e) es]
 |struct {t:TypeId} {fs:Array Field} (ps:List (List D)) (h:P.underlying t=some (.struct fs)) (hl:ps.length=fs.size) (hp: ∀(i:Nat) (f:Field) (p:List D),fs[i]? =some f→ps[i]? =some p→Z7 P f.type p):Z7 P t ps.flatten
section
variable {H:Type} {enc:TypeId×Value→H} {P:Program}
def B7Y(w:World)(Hp:Heap)(ds:List D)(cs:List Value):Prop:=∀(j:Nat) (d:D),ds[j]? =some d→d.one=true∧R w Hp d (cs.getD j Go.undef)
theorem A7f{w:World}{Hp:Heap}{cs:List Value}: ∀(fs:List Field) (o m:Nat) (ps:List (List D)),B0l P o fs=some m→m≤cs.length→ps.length=fs.length→
  (∀(i:Nat) (f:Field) (p:List D),fs[i]? =some f→ps[i]? =some p→p.length=P.cellsOf f.type∧B7Y w Hp p ((cs.drop f.offset).take (P.cellsOf f.type)))→
  o≤m∧o+ps.flatten.length=m∧∀(j:Nat) (d:D),ps.flatten[j]? =some d→d.one=true∧R w Hp d (cs.getD (o+j) Go.undef)
 | [],o,m,ps,ht,_,hl,_=>by
  have:ps= []:=C9n (by simpa using hl)
  subst this
  simp only[B0l,C91]at ht
  subst ht
  exact⟨C9j _,by simp,fun j d hd=>by simp at hd⟩
 |f::r,o,m,ps,ht,hm,hl,hp=>by
  cases ps with
  |nil=>simp at hl
  |cons p ps=>
   unfold B0l at ht
   split at ht
   ·rename_i ho
    obtain⟨hpl,hpr⟩:=hp 0 f p rfl rfl
    obtain⟨h1,h2,h3⟩:=A7f r (o+P.cellsOf f.type) m ps ht hm (by simpa using hl) (fun i f' p' hf hp'=>hp (i+1) f' p' (by simpa using hf) (by simpa using hp'))
    refine⟨by omega,by rw[List.flatten_cons,C9V,hpl];omega,fun j d hd=>?_⟩
    rw[List.flatten_cons,List.getElem?_append]at hd
    split at hd
    ·rename_i hj
     obtain⟨k1,k2⟩:=hpr j d hd
     refine⟨k1,?_⟩
     have e:((cs.drop f.offset).take (P.cellsOf f.type)).getD j Go.undef=cs.getD (o+j) Go.undef:=by
      rw[List.getD_eq_getElem?_getD,List.getD_eq_getElem?_getD,List.getElem?_take_of_lt (by omega),List.getElem?_drop,ho]
     rw[←e];exact k2
    ·rename_i hj
     have:=h3 (j-p.length) d hd
     have e:o+P.cellsOf f.type+(j-p.length)=o+j:=by omega
     rw[e]at this
     exact this
   ·cases ht
theorem A1x{e:TypeId}{n:Nat}: ∀{l:List (DataW H)},(DataW.weightsAll P e l).all (· ≤n)=true→∀d∈l,(d.weights P e).all (· ≤n)=true
 | [],_,d,hd=>by cases hd
 |x::l,h,d,hd=>by
  rw[DataW.weightsAll,D0T,C9c]at h
  rcases C9r.1 hd with rfl|hd
  ·exact h.1
  ·exact A1x h.2 d hd
theorem V9{n:Nat}: ∀{ts:List TypeId} {l:List (DataW H)},(DataW.weightsEach P ts l).all (· ≤n)=true→∀(i:Nat) t d,ts[i]? =some t→l[i]? =some d→(d.weights P t).all (· ≤n)=true
 | [],_,_,i,t,d,ht,_=>by simp at ht
 |_::_,[],_,i,t,d,_,hd=>by simp at hd
 |t0::ts,d0::l,h,i,t,d,ht,hd=>by
  rw[DataW.weightsEach,D0T,C9c]at h
  cases i with
  |zero=>simp at ht hd;subst ht;subst hd;exact h.1
  |succ i=>exact V9 h.2 i t d (by simpa using ht) (by simpa using hd)
theorem B0m{a:Addr}(hs:a.spot=none)(n:Nat):a.add n=⟨a.block,a.off+n,none⟩:=by
 obtain⟨b,o,s⟩:=a
 simp only at hs
 subst hs
 unfold Addr.add
 split
 ·rename_i h;subst h;rfl
 ·rfl
theorem A8j{l:List TypeId}(hB:plainB P l=true){w:World}{base:Nat}{sp:Nat→Bool}{hd:Bool}{Hp:Heap}(hH: ∀b,Hp.held b=false):
  ∀(n:Nat) (t:TypeId) (cs:List Value) (x:DataW H×List MemPlace),t∈l→DataW.trod enc P w base sp hd n t cs=some x→(x.1.weights P t).all (· ≤reachBytes)=true→
   cs.length=P.cellsOf t∧∃ds,Z7 P t ds∧ds.length=cs.length∧B7Y w Hp ds cs:=by
 intro n
 induction n with
 |zero=>intro t cs x _ h;simp[DataW.trod]at h
 |succ n ih=>
  intro t cs x ht h hw
  have hpt:A4J P l t=true:=C90.1 hB t ht
  unfold A4J at hpt
  have one: ∀{d:D} {v:Value},d.one=true→R w Hp d v→B7Y w Hp [d] [v]:=fun h1 h2 j d' hd'=>by
   cases j with
   |zero=>simp at hd';subst hd';exact⟨h1,h2⟩
   |succ j=>simp at hd'
  cases hu:P.underlying t with
  |none=>rw[hu]at hpt;cases hpt
  |some u=>
   cases u with
   |bool=>
    rw[hu]at hpt
    obtain⟨b,rfl,rfl⟩:=DataW.trod_bool hu h
    exact⟨(C9Q hpt).symm,_,.bool b hu,rfl,one rfl (.bool b)⟩
   |int k=>
    rw[hu]at hpt
    obtain⟨m,rfl,rfl,hwf⟩:=DataW.trod_int hu h
    exact⟨(C9Q hpt).symm,_,.int m hu hwf,rfl,one rfl (.int k m)⟩
   |string=>
    rw[hu]at hpt
    obtain⟨s,rfl,rfl,_⟩:=DataW.trod_string hu h
    have hsz:s.size≤reachBytes:=by simpa [DataW.weights]using hw
    exact⟨(C9Q hpt).symm,_,.str s hu hsz,rfl,one rfl (.str s)⟩
   |slice e=>
    rw[hu]at hpt
    simp only[C9c,C9l]at hpt
    obtain⟨⟨⟨hc1,hel⟩,hce⟩,hbe⟩:=hpt
    have hel:e∈l:=by simpa using hel
    rcases DataW.trod_slice hu h with⟨rfl,rfl⟩|⟨a,len,cap,elems,rest,m,hm,rfl,rfl,hb,hlc,hmx,hlen,hat,_,_⟩
    ·exact⟨hc1.symm,_,.sl [] hu (by simp) (by simp),rfl,one rfl (.sl0 _ _ _)⟩
    ·cases hm
     have hw2:(elems.length+rest.length)*P.bytesOf e≤reachBytes∧(DataW.weightsAll P e (elems.map (·.1))).all (· ≤reachBytes)=true:=by
      rw[DataW.weights,hu]at hw
      simp only[D0S,D0T,C9c,C9l,C98]at hw
      exact⟨hw.1,hw.2.1⟩
     have hex: ∀i,∃p:List D×List Value,i<len→Z7 P e p.1∧p.1.length=P.cellsOf e∧B7Y w Hp p.1 p.2∧∀j,j<P.cellsOf e→w.cell? ((a.add (i*P.cellsOf e)).add j)=some (p.2.getD j Go.undef):=by
      intro i
      by_cases hi:i<len
      ·have hy:=hat i hi
       have hie:i<elems.length:=by omega
       rw[C9g hie,C9b]at hy
       obtain⟨ci,hci,hti⟩:=hy
       obtain⟨_,hcl,hcg⟩:=World.cells?_some hci
       obtain⟨k1,ds,k2,k3,k4⟩:=ih e ci elems[i] hel hti (A1x hw2.2 _ (D0N.2 ⟨_,C9d hie,rfl⟩))
       refine⟨(ds,ci),fun _=>⟨k2,by rw[k3];exact k1,k4,fun j hj=>?_⟩⟩
       rw[hcg j hj,List.getD_eq_getElem?_getD,C9g (by rw[hcl];exact hj)]
       rfl
      ·exact⟨([],[]),fun h=>absurd h hi⟩
     obtain⟨g,hg⟩:=Classical.skolem.1 hex
     have hes: ∀(i:Nat) (x:List D),((List.range len).map fun i=>(g i).1)[i]? =some x→i<len∧x=(g i).1:=fun i x hx=>by
      simp only[C9m,C9Y]at hx
      obtain⟨y,hy,rfl⟩:=hx
      have hi:=(C9Z.1 hy).1
      simp at hi
      rw[List.getElem?_range hi]at hy
      cases hy
      exact⟨hi,rfl⟩
     have hl2:((List.range len).map fun i=>(g i).1).length=len:=by simp
     refine⟨hc1.symm,_,.sl ((List.range len).map fun i=>(g i).1) hu ?_ ?_,rfl,one rfl ?_⟩
     ·rw[hl2]
      refine D0V (C95 _ ?_) hw2.1
      omega
     ·intro x hx
      obtain⟨i,hi⟩:=List.mem_iff_getElem?.1 hx
      obtain⟨hi',rfl⟩:=hes i x hi
      exact(hg i hi').1
     ·show R w Hp (.sl (P.cellsOf e) ((List.range len).map fun i=>(g i).1)) (.slice (some a) len cap)
      by_cases hz:len=0
      ·subst hz;exact .sl0 _ _ _
      ·have h00:=(hg 0 (by omega)).2.2.2 0 hce
       rw[Nat.zero_mul]at h00
       have hspot:a.spot=none:=by
        have e0:(a.add 0).add 0=a:=rfl
        rw[e0]at h00
        unfold World.cell? at h00
        split at h00
        ·split at h00
         ·cases h00
         ·rename_i hns
          cases hsp:a.spot with
          |none=>rfl
          |some _=>rw[hsp]at hns;exact absurd rfl hns
        ·cases h00
       have hblk:a.block<w.heap.size:=by
        have e0:(a.add 0).add 0=a:=rfl
        rw[e0]at h00
        unfold World.cell? at h00
        by_cases hlt:a.block<w.heap.size
        ·exact hlt
        ·rw[Array.getElem?_eq_none (by omega)]at h00;cases h00
       have hcell: ∀i j,i<len→j<P.cellsOf e→w.cell? ⟨a.block,a.off+i*P.cellsOf e+j,none⟩=some ((g i).2.getD j Go.undef):=fun i j hi hj=>by
        have:=(hg i hi).2.2.2 j hj
        rw[B0m hspot,B0m rfl]at this
        exact this
       have hR:=R.sl (w:=w) (H:=Hp) (P.cellsOf e) ((List.range len).map fun i=>(g i).1) a.block a.off cap (fun i j=>(g i).2.getD j Go.undef) hblk (hH _)
        (fun i x hx=>by obtain⟨hi,rfl⟩:=hes i x hx;exact(hg i hi).2.1) (by rw[hl2];exact hlc) (fun i j hi hj=>hcell i j (by rw[hl2]at hi;exact hi) hj)
        (fun i x j d hx hd'=>by obtain⟨hi,rfl⟩:=hes i x hx;exact((hg i hi).2.2.1 j d hd').1) (fun i x j d hx hd'=>by obtain⟨hi,rfl⟩:=hes i x hx;exact((hg i hi).2.2.1 j d hd').2)
       rw[hl2]at hR
       obtain⟨ab,ao,as_⟩:=a
       simp only at hspot
       subst hspot
       exact hR
   |struct fs=>
    rw[hu]at hpt
    simp only[C9c,C9l,C90]at hpt
    obtain⟨htile,hall⟩:=hpt
    obtain⟨xs,m,hm,rfl,hcl,hxl,hat⟩:=DataW.trod_struct hu h
    cases hm
    have hwe:(DataW.weightsEach P (fs.toList.map (·.type)) (xs.map (·.1))).all (· ≤reachBytes)=true:=by
     rw[DataW.weights,hu]at hw;exact hw
    have hex: ∀i:Nat,∃p:List D,∀f:Field,fs[i]? =some f→Z7 P f.type p∧p.length=P.cellsOf f.type∧B7Y w Hp p ((cs.drop f.offset).take (P.cellsOf f.type)):=by
     intro i
     cases hf:fs[i]? with
     |none=>exact⟨[],fun f h=>by cases h⟩
     |some f=>
      have hi:=(C9o.1 hf).1
      have hxi:i<xs.length:=by omega
      have hy:=hat i f hf
      rw[C9g hxi]at hy
      have hfl:f.type∈l:=by
       have:=hall f (by rw[C94];exact Array.mem_of_getElem? hf)
       simpa using this
      have hwi:=V9 hwe i f.type xs[i].1 (by simp[hf]) (by simp[C9g hxi])
      obtain⟨k1,ds,k2,k3,k4⟩:=ih f.type _ xs[i] hfl hy hwi
      refine⟨ds,fun f' hf'=>?_⟩
      cases hf'
      exact⟨k2,by rw[k3];exact k1,k4⟩
    obtain⟨g,hg⟩:=Classical.skolem.1 hex
    have hpl:((List.range fs.size).map g).length=fs.size:=by simp
    have hpg: ∀(i:Nat) (f:Field) (p:List D),fs[i]? =some f→((List.range fs.size).map g)[i]? =some p→p=g i:=fun i f p hf hp=>by
     have hi:=(C9o.1 hf).1
     rw[C9m,List.getElem?_range hi]at hp
     cases hp;rfl
    obtain⟨_,hlen,hrow⟩:=A7f (P:=P) (w:=w) (Hp:=Hp) (cs:=cs) fs.toList 0 (P.cellsOf t) ((List.range fs.size).map g) htile (by omega) (by simp) (fun i f p hf hp=>by
     have hf':fs[i]? =some f:=by simpa using hf
     have:=hpg i f p hf' hp
     subst this
     exact⟨(hg i f hf').2.1,(hg i f hf').2.2⟩)
    refine⟨hcl,_,.struct ((List.range fs.size).map g) hu hpl (fun i f p hf hp=>by have:=hpg i f p hf hp;subst this;exact(hg i f hf).1),by omega,fun j d hd=>?_⟩
    have:=hrow j d hd
    rwa [Nat.zero_add]at this
   |_=>rw[hu]at hpt;cases hpt
def A1y(P:Program)(t:TypeId)(x:D):Prop:=match P.underlying t with
 |some (.struct _)=>∃ds,x= .agg ds∧Z7 P t ds
 |_=>Z7 P t [x]
theorem B0n{l:List TypeId}(hB:plainB P l=true){w:World}{base b0:Nat}{sp:Nat→Bool}{hd:Bool}{Hp:Heap}(hH: ∀b,Hp.held b=false){t:TypeId}{v:Value}{d:DataW H}{ps:List MemPlace}(ht:t∈l)
  (hval:Value.okWide P w .any b0 t v) (h:DataW.Trod enc P w base sp hd t v d ps) (hw:(d.weights P t).all (· ≤reachBytes)=true): ∃x,A1y P t x∧R w Hp x v:=by
 obtain⟨n,hn⟩:=h
 obtain⟨h1,ds,h2,h3,h4⟩:=A8j hB hH n t v.cells.toList (d,ps) ht hn hw
 have hpt:A4J P l t=true:=C90.1 hB t ht
 have leaf:(∀fs,P.underlying t≠some (.struct fs))→v.cells.toList= [v]→∃x,A1y P t x∧R w Hp x v:=by
  intro hns hv
  rw[hv]at h3 h4
  match ds,h3 with
  | [x],_=>
   refine⟨x,?_,(h4 0 x rfl).2⟩
   unfold A1y
   split
   ·rename_i fs hfs;exact absurd hfs (hns fs)
   ·exact h2
 cases hu:P.underlying t with
 |none=>unfold A4J at hpt;rw[hu]at hpt;cases hpt
 |some u=>
  cases u with
  |bool=>obtain⟨b,rfl⟩:=okWide_bool hu hval;exact leaf (by simp[hu]) rfl
  |int k=>obtain⟨m,rfl⟩:=okWide_int hu hval;exact leaf (by simp[hu]) rfl
  |string=>obtain⟨s,rfl⟩:=okWide_string hu hval;exact leaf (by simp[hu]) rfl
  |slice e=>obtain⟨a,len,cap,rfl⟩:=okWide_slice hu hval;exact leaf (by simp[hu]) rfl
  |struct fs=>
   simp only[Value.okWide,hu]at hval
   obtain⟨cs,rfl,hsz,_⟩:=hval
   refine⟨.agg ds,?_,.agg _ _ (by rw[h3];rfl) (fun i d hd=>(h4 i d hd).1) (fun i d hd=>?_)⟩
   ·unfold A1y;rw[hu];exact⟨ds,rfl,h2⟩
   ·have:=(h4 i d hd).2
    have e:(Value.agg cs).cells.toList.getD i Go.undef=cs.getD i Go.undef:=by
     show cs.toList.getD i Go.undef=_
     simp
    rwa [e]at this
  |_=>unfold A4J at hpt;rw[hu]at hpt;cases hpt
theorem A6O{t:TypeId}{ds:List D}(hu:P.underlying t=some .string)(h:Z7 P t ds): ∃s,ds= [.str s]∧s.size≤reachBytes:=by
 cases h with
 |str s h hs=>exact⟨s,rfl,hs⟩
 |bool b h=>rw[hu]at h;cases h
 |int n h=>rw[hu]at h;cases h
 |sl es h=>rw[hu]at h;cases h
 |struct ps h=>rw[hu]at h;cases h
theorem B4S{t:TypeId}{ds:List D}(hu:P.underlying t=some .bool)(h:Z7 P t ds): ∃b,ds= [.bool b]:=by
 cases h with
 |bool b h=>exact⟨b,rfl⟩
 |str s h hs=>rw[hu]at h;cases h
 |int n h=>rw[hu]at h;cases h
 |sl es h=>rw[hu]at h;cases h
 |struct ps h=>rw[hu]at h;cases h
theorem A1z{t:TypeId}{k:IntKind}{ds:List D}(hu:P.underlying t=some (.int k))(h:Z7 P t ds): ∃n,ds= [.int k n]∧(Lit.int k n).wf=true:=by
 cases h with
 |int n h hw=>rw[hu]at h;cases h;exact⟨n,rfl,hw⟩
 |bool b h=>rw[hu]at h;cases h
 |str s h hs=>rw[hu]at h;cases h
 |sl es h=>rw[hu]at h;cases h
 |struct ps h=>rw[hu]at h;cases h
theorem B3C{t e:TypeId}{ds:List D}(hu:P.underlying t=some (.slice e))(h:Z7 P t ds): ∃es,ds= [.sl (P.cellsOf e) es]∧es.length*P.bytesOf e≤reachBytes∧∀x∈es,Z7 P e x:=by
 cases h with
 |sl es h hl he=>rw[hu]at h;cases h;exact⟨es,rfl,hl,he⟩
 |bool b h=>rw[hu]at h;cases h
 |str s h hs=>rw[hu]at h;cases h
 |int n h=>rw[hu]at h;cases h
 |struct ps h=>rw[hu]at h;cases h
theorem A10{t:TypeId}{fs:Array Field}{ds:List D}(hu:P.underlying t=some (.struct fs))(h:Z7 P t ds): ∃ps:List (List D),ds=ps.flatten∧ps.length=fs.size∧∀(i:Nat) (f:Field) (p:List D),fs[i]? =some f→ps[i]? =some p→Z7 P f.type p:=by
 cases h with
 |struct ps h hl hp=>rw[hu]at h;cases h;exact⟨ps,rfl,hl,hp⟩
 |bool b h=>rw[hu]at h;cases h
 |str s h hs=>rw[hu]at h;cases h
 |int n h=>rw[hu]at h;cases h
 |sl es h=>rw[hu]at h;cases h
theorem B1y{t:TypeId}{x:D}(hn: ∀fs,P.underlying t≠some (.struct fs))(h:A1y P t x):Z7 P t [x]:=by
 unfold A1y at h
 split at h
 ·rename_i fs hfs;exact absurd hfs (hn fs)
 ·exact h
theorem A8k{t:TypeId}{fs:Array Field}{x:D}(hu:P.underlying t=some (.struct fs))(h:A1y P t x): ∃ds,x= .agg ds∧Z7 P t ds:=by
 unfold A1y at h
 rw[hu]at h
 exact h
theorem B7Z{t e:TypeId}{x:D}(hu:P.underlying t=some (.slice e))(h:A1y P t x): ∃es,x= .sl (P.cellsOf e) es∧es.length*P.bytesOf e≤reachBytes∧∀y∈es,Z7 P e y:=by
 obtain⟨s,h1,h2⟩:=B3C hu (B1y (by simp[hu]) h)
 simp at h1
 exact⟨s,h1,h2⟩
theorem A6P{n:Int}(h:(Lit.int .i64 n).wf=true): -9223372036854775808≤n∧n≤9223372036854775807:=by
 unfold Lit.wf at h
 rw[C9c,C9l,C9l]at h
 exact h
theorem A3f(hl:laidOutB P=true){W W':World}(hb:Below W.heap.size W W'): ∀{ts:List TypeId} {vs:List Value} {ds:List (DataW H)} {ps:List MemPlace},ts.all (fun t=>P.readableRec t&&decide (t<P.types.size))=true→
  DataW.TrodAll enc P W 0 (fun _=>true) true ts vs ds ps→(∀x∈ps,x.block<W.heap.size)→DataW.TrodAll enc P W' 0 (fun b=>decide (b<W.heap.size)) true ts vs ds ps
 | [],[],[],_,_,h,_=>h
 | [],[],_::_,_,_,h,_=>h.elim
 | [],_::_,_,_,_,h,_=>h.elim
 |_::_,[],_,_,_,h,_=>h.elim
 |_::_,_::_,[],_,_,h,_=>h.elim
 |t::ts,v::vs,d::ds,ps,ht,h,hlt=>by
  obtain⟨p,q,h1,h2,rfl⟩:=h
  simp only[D0S,C9c,C9l]at ht
  exact⟨p,q,Below.trod hl ht.1.1 ht.1.2 h1 hb (fun x hx=>hlt x (List.mem_append_left _ hx)),A3f hl hb ht.2 h2 (fun x hx=>hlt x (List.mem_append_right _ hx)),rfl⟩
theorem B4T{f:Nat}{fn:Func}{s:ChangeSpec}{W:World}{args:Array Value}{ds gs:List (DataW H)}{before:List MemPlace}{tb:TypeId}(hlaid:laidOutB P=true)(hread:fn.params.toList.all (fun t=>P.readableRec t&&decide (t<P.types.size))=true)
  (hv:s.vars= []) (hres:fn.resultTypes= #[tb]) (hb:P.underlying tb=some .bool) (hs:s.fn H ds= {results:=[.lit (.bool true)],args:=ds})
  (hW:DataW.Whole enc P fn.params.toList s.vars false W args.toList ds gs before) (Hp:Heap) (hH: ∀b,Hp.held b=false) (hS:Sat Hp W) (xs:List D) (hx:xs.length=args.size) (hR: ∀(i:Nat) d,xs[i]? =some d→R W Hp d (args.getD i Go.undef))
  (hA: ∀Q:D→Heap→Prop,Q (.bool true) Hp→ACalls P f xs Hp Q):Calls P f args W fun e W'=>∃v,e= .returned v∧s.post enc P fn false true false false W args v W':=by
 have hlt:=hW.lt
 have hW0:=hW
 obtain⟨p,q,hA0,hV,rfl,hfz,hnd⟩:=hW
 rw[hv]at hV
 obtain⟨rfl,rfl⟩:=trodVars_none hV
 refine((hA (fun d _=>d= .bool true) rfl).2 W args hx hR hS).mono fun e W' ⟨v,he,d,H',h1,h2,h3,h4,h5⟩=>⟨v,he,?_⟩
 subst h5
 have hbv:=h1.bool_inv
 subst hbv
 have hbel:Below W.heap.size W W':=⟨h3.os,h3.tape,h3.output,h3.size,fun k hk=>h3.block k hk (hH k)⟩
 have hs':s.fn H (ds++[])= {results:=[.lit (.bool true)],args:=ds}:=by rw[D0E];exact hs
 refine⟨ds,[],p++[],[],p,[],hW0,?_,?_,?_,hbel.frame _,fun h=>by cases h⟩
 ·rw[hs',hres]
  exact trodAll_mk1 (shut_bool hb true)
 ·rw[hs']
  exact A3f hlaid hbel hread hA0 (fun x hx=>hlt x (by simpa using hx))
 ·rw[hs',hv]
  exact rfl
theorem A8l{P:Program}{w:World}: ∀{l:List (String×DataW Unit)} {ps:List MemPlace},DataW.LaidVars P w l ps→∀n d,(n,d)∈l→
  ∃g t cs fuel p,P.globalNamed n=some g∧(P.globals[g]?).map (·.type)=some t∧w.var? P n=some cs∧DataW.trod (fun _=>()) P w 0 (fun _=>true) false fuel t cs.toList=some (d,p)
 | [],_,_,n,d,h=>by cases h
 |(n0,d0)::r,ps,h,n,d,hm=>by
  obtain⟨g,t,cs,fuel,p,q,h1,h2,h3,h4,h5,_⟩:=h
  rcases C9r.1 hm with e|hm
  ·cases e;exact⟨g,t,cs,fuel,p,h1,h2,h3,h4⟩
  ·exact A8l h5 n d hm
theorem B9q{P:Program}{W:World}{laid:List (String×DataW Unit)}(h:laidMet P laid W){name:String}{k:IntKind}{zs:List Int}(hm:(name,Lib.tabData k zs)∈laid){g:Nat}{t e:TypeId}{n:Nat}
  (hg:P.globalNamed name=some g) (hty:(P.globals[g]?).map (·.type)=some t) (ht:P.underlying t=some (.array n e)) (he:P.underlying e=some (.int k)) (hce:P.cellsOf e=1) (hct:P.cellsOf t=n) (Hp:Heap):ObjOk W Hp g (.ro (A9e k zs)):=by
 obtain⟨ps,hl,_⟩:=h
 obtain⟨g',t',cs,fuel,p,hg',ht',hvar,hd⟩:=A8l hl _ _ hm
 obtain rfl:=Option.some.inj (hg.symm.trans hg')
 obtain rfl:=Option.some.inj (hty.symm.trans ht')
 have hcs:=Lib.cells_of_tab ht he hce hct hd
 unfold World.var? at hvar
 rw[hg]at hvar
 simp only[C9t]at hvar
 split at hvar
 ·rename_i c T fz hw
  cases hvar
  refine⟨cs,T,fz,hw,by rw[←D0G,hcs];simp[A9e],fun j d hd=>?_⟩
  simp only[A9e,C9m,C9Y]at hd
  obtain⟨z,hz,rfl⟩:=hd
  have e:cs.getD j Go.undef= .int k z:=by
   rw[show cs.getD j Go.undef=cs.toList.getD j Go.undef by simp,hcs]
   simp[hz]
  rw[e]
  exact⟨rfl,.int _ _⟩
 ·cases hvar
end
end Go.Av
end
section
set_option maxRecDepth 100000
namespace Go.Proofs.YtibphjonmikciaaGreatDoor
open Go Go.Av Go.Lexs Go.Lin
theorem own:ownKnob Tryz.prog.godebug=none:=by kernel_rfl
theorem B9r:laidOutB Tryz.prog=true:=by kernel_rfl
def A8m(u v:Nat):Heap:=fun g=>if g=1 then some (.ro (A9e .u64 Lib.pow10Tab))
 else if g=2 then some (.ro [.iface u .undef])
 else if g=3 then some (.ro [.iface v .undef])else none
theorem A4K(u v:Nat)(b:Nat):(A8m u v).held b=false:=by
 cases h:A8m u v b with
 |none=>exact G8 h
 |some o=>
  have: ∃cs,o= .ro cs:=by
   unfold A8m at h
   repeat' (split at h;· cases h;exact⟨_,rfl⟩)
   cases h
  obtain⟨cs,rfl⟩:=this
  rw[I6 h];rfl
theorem B4U(u v:Nat):Tabs (A8m u v):=by
 refine⟨?_,⟨u,?_⟩,⟨v,?_⟩⟩<;>(unfold A8m;simp only[Nat.reduceEqDiff,if_true,if_false])
theorem B3D{P:Program}{W:World}{laid:List (String×DataW Unit)}(h:laidMet P laid W){name nm:String}{x:DataW Unit}(hm:(name,DataW.iface nm x)∈laid){g:Nat}{t:TypeId}{ms:Array String}
  (hg:P.globalNamed name=some g) (hty:(P.globals[g]?).map (·.type)=some t) (hi:(match P.underlying t with|some (.interface _)=>true|_=>false)=true) (Hp:Heap): ∃u,ObjOk W Hp g (.ro [.iface u .undef]):=by
 obtain⟨ps,hl,_⟩:=h
 obtain⟨g',t',cs,fuel,p,hg',ht',hvar,hd⟩:=A8l hl _ _ hm
 obtain rfl:=Option.some.inj (hg.symm.trans hg')
 obtain rfl:=Option.some.inj (hty.symm.trans ht')
 have hc: ∃u v,cs.toList= [.iface u v]:=by
  cases fuel with
  |zero=>simp[DataW.trod]at hd
  |succ fuel=>
   unfold DataW.trod at hd
   split at hi
   ·rename_i ms hu
    rw[hu]at hd
    split at hd<;>first|(rename_i h1 h2;cases h1;done)|skip
    all_goals first|exact⟨_,_,by assumption⟩|(simp at hd;done)
   ·cases hi
 obtain⟨u,v,hcs⟩:=hc
 unfold World.var? at hvar
 rw[hg]at hvar
 simp only[C9t]at hvar
 split at hvar
 ·rename_i c T fz hw
  cases hvar
  refine⟨u,cs,T,fz,hw,by rw[←D0G,hcs];rfl,fun j d hd=>?_⟩
  match j,hd with
  |0,hd=>
   cases hd
   have e:cs.getD 0 Go.undef= .iface u v:=by
    rw[show cs.getD 0 Go.undef=cs.toList.getD 0 Go.undef by simp,hcs];rfl
   rw[e]
   exact⟨rfl,.iface _ _ _ (.undef _)⟩
  |j+1,hd=>cases hd
 ·cases hvar
theorem B7a:(Rows.laid_internal_strconv_uint64pow10:DataW Unit)=Lib.tabData .u64 Lib.pow10Tab:=by kernel_rfl
theorem B7b{W:World}{laid:List (String×DataW Unit)}(h:laidMet Tryz.prog laid W)(h1:("internal/strconv.uint64pow10",(Rows.laid_internal_strconv_uint64pow10:DataW Unit))∈laid)(h2:("strconv.ErrSyntax",(Rows.laid_strconv_ErrSyntax:DataW Unit))∈laid)(h3:("strconv.ErrRange",(Rows.laid_strconv_ErrRange:DataW Unit))∈laid):
  ∃u v,Sat (A8m u v) W:=by
 rw[B7a]at h1
 obtain⟨u,hu⟩:=B3D (ms:= #[]) h h2 (g:=2) (by kernel_rfl) (t:=140) (by kernel_rfl) (by kernel_rfl) (fun _=>none)
 obtain⟨v,hv⟩:=B3D (ms:= #[]) h h3 (g:=3) (by kernel_rfl) (t:=140) (by kernel_rfl) (by kernel_rfl) (fun _=>none)
 refine⟨u,v,?_⟩
 intro b o hb
 unfold A8m at hb
 have mono: ∀{b x:Nat},ObjOk W (fun _=>none) b (.ro [.iface x .undef])→ObjOk W (A8m u v) b (.ro [.iface x .undef]):=fun {b x} ⟨c,T,fz,q1,q2,q3⟩=>⟨c,T,fz,q1,q2,fun j d hd=>⟨(q3 j d hd).1,by
  have:=(q3 j d hd).2
  match j,hd with
  |0,hd=>
   cases hd
   generalize c.getD 0 Go.undef=y at this⊢
   cases this with
   |iface _ _ v hr=>exact .iface _ _ _ (.undef _)
  |j+1,hd=>cases hd⟩⟩
 split at hb
 ·rename_i e;cases hb;subst e
  exact B9q h h1 (by kernel_rfl) (t:=(Tryz.prog.globals[1]?.map (·.type)).getD 0) (by kernel_rfl) (n:=20) (e:=196) (by kernel_rfl) (by kernel_rfl) (by kernel_rfl) (by kernel_rfl) _
 split at hb
 ·rename_i e;cases hb;subst e;exact mono hu
 split at hb
 ·rename_i e;cases hb;subst e;exact mono hv
 ·cases hb
theorem B1z{α :Type}: ∀(l:List α),l.length=3→∃a b c,l= [a,b,c]
 | [a,b,c],_=>⟨a,b,c,rfl⟩
 | [],h=>by cases h
 | [_],h=>by cases h
 | [_,_],h=>by cases h
 |_::_::_::_::_,h=>by simp at h
theorem B0o{α :Type}: ∀(l:List α),l.length=2→∃a b,l= [a,b]
 | [a,b],_=>⟨a,b,rfl⟩
 | [],h=>by cases h
 | [_],h=>by cases h
 |_::_::_::_,h=>by simp at h
theorem B3E{α :Type}{f: α →List D}{p: α →Prop}: ∀(es:List (List D)),(∀x∈es,∃t,x=f t∧p t)→∃l:List α,es=Rw f l∧∀t∈l,p t
 | [],_=>⟨[],rfl,by simp⟩
 |x::es,h=>by
  obtain⟨t,rfl,ht⟩:=h x (by simp)
  obtain⟨l,rfl,hl⟩:=B3E es (fun y hy=>h y (by simp[hy]))
  refine⟨t::l,rfl,fun u hu=>?_⟩
  rcases C9r.1 hu with rfl|hu
  ·exact ht
  ·exact hl u hu
theorem B9s{el:List D}(h:Z7 Tryz.prog 114 el): ∃t:LTm,el=Q7 t∧(t.v.size≤140737488351232∧W0 t.c):=by
 have hre:reachBytes=140737488351232:=rfl
 obtain⟨ps,rfl,hl,hp⟩:=A10 Tryz.underlying114 h
 obtain⟨p0,p1,rfl⟩:=B0o ps hl
 obtain⟨s,rfl,hs⟩:=A6O (by kernel_rfl) (hp 0 _ _ rfl rfl)
 obtain⟨n,rfl,hn⟩:=A1z (k:=.i64) (by kernel_rfl) (hp 1 _ _ rfl rfl)
 exact⟨⟨s,n⟩,rfl,by simp only[];omega,A6P hn⟩
theorem B7c{el:List D}(h:Z7 Tryz.prog 25 el): ∃a:LinV,el=E3 a∧a7 a:=by
 have hre:reachBytes=140737488351232:=rfl
 obtain⟨ps,rfl,hl,hp⟩:=A10 Tryz.underlying25 h
 obtain⟨p0,p1,p2,rfl⟩:=B1z ps hl
 obtain⟨es,rfl,he,hes⟩:=B3C (e:=114) (by kernel_rfl) (hp 0 _ _ rfl rfl)
 obtain⟨k,rfl,hk⟩:=A1z (k:=.i64) (by kernel_rfl) (hp 1 _ _ rfl rfl)
 obtain⟨b,rfl⟩:=B4S (by kernel_rfl) (hp 2 _ _ rfl rfl)
 have c1:Tryz.prog.cellsOf 114=2:=by kernel_rfl
 have b1:Tryz.prog.bytesOf 114=24:=by kernel_rfl
 rw[b1]at he
 obtain⟨l,rfl,hl2⟩:=B3E (f:=Q7) (p:=fun t=>t.v.size≤140737488351232∧W0 t.c) es (fun y hy=>B9s (hes y hy))
 rw[D6]at he
 rw[c1]
 exact⟨⟨l,k,b⟩,rfl,by simp only[];omega,fun t ht=>(hl2 t ht).1,fun t ht=>(hl2 t ht).2,A6P hk⟩
theorem B9t{el:List D}(h:Z7 Tryz.prog 71 el): ∃t:VlV,el=vlC t∧(t.v.size≤140737488351232∧W0 t.n):=by
 have hre:reachBytes=140737488351232:=rfl
 obtain⟨ps,rfl,hl,hp⟩:=A10 Tryz.underlying71 h
 obtain⟨p0,p1,rfl⟩:=B0o ps hl
 obtain⟨s,rfl,hs⟩:=A6O (by kernel_rfl) (hp 0 _ _ rfl rfl)
 obtain⟨n,rfl,hn⟩:=A1z (k:=.i64) (by kernel_rfl) (hp 1 _ _ rfl rfl)
 exact⟨⟨s,n⟩,rfl,by simp only[];omega,A6P hn⟩
theorem B10{x:D}(h:A1y Tryz.prog 40 x): ∃l:List VlV,x= .sl 2 (Rw vlC l)∧A4U l:=by
 have hre:reachBytes=140737488351232:=rfl
 obtain⟨es,rfl,he,hes⟩:=B7Z (e:=71) (by kernel_rfl) h
 have c1:Tryz.prog.cellsOf 71=2:=by kernel_rfl
 have b1:Tryz.prog.bytesOf 71=24:=by kernel_rfl
 rw[b1]at he
 obtain⟨l,rfl,hl⟩:=B3E (f:=vlC) (p:=fun t=>t.v.size≤140737488351232∧W0 t.n) es (fun y hy=>B9t (hes y hy))
 rw[D6]at he
 rw[c1]
 exact⟨l,rfl,by omega,fun t ht=>(hl t ht).1,fun t ht=>(hl t ht).2⟩
open Go Go.Av Go.Lexs Go.Lin Go.Fo
theorem B4V{α :Type}: ∀(l:List α),l.length=5→∃a b c d e,l= [a,b,c,d,e]
 | [a,b,c,d,e],_=>⟨a,b,c,d,e,rfl⟩
 | [],h=>by cases h
 | [_],h=>by cases h
 | [_,_],h=>by cases h
 | [_,_,_],h=>by cases h
 | [_,_,_,_],h=>by cases h
 |_::_::_::_::_::_::_,h=>by simp at h
def FmD(ds:List D):Prop:=∃f,ds=C1 f∧FmFit f
def C8P(ds:List D):Prop:=∃l,ds= [.sl 7 (Rw C1 l)]∧l.length≤1466015503658∧∀k∈l,FmFit k
theorem B11{t:TypeId}{ds:List D}(h:Z7 Tryz.prog t ds):(t=28→FmD ds)∧(t=26→C8P ds):=by
 have hre:reachBytes=140737488351232:=rfl
 have u1:Tryz.prog.underlying 28=_:=Tryz.underlying28
 have u2:Tryz.prog.underlying 26=some (.slice 28):=by kernel_rfl
 have c1:Tryz.prog.cellsOf 28=7:=by kernel_rfl
 have b1:Tryz.prog.bytesOf 28=96:=by kernel_rfl
 induction h with
 |bool b h=>exact⟨(by rintro rfl;rw[u1]at h;cases h),(by rintro rfl;rw[u2]at h;cases h)⟩
 |int n h hw=>exact⟨(by rintro rfl;rw[u1]at h;cases h),(by rintro rfl;rw[u2]at h;cases h)⟩
 |str s h hs=>exact⟨(by rintro rfl;rw[u1]at h;cases h),(by rintro rfl;rw[u2]at h;cases h)⟩
 |sl es h hl he ih=>
  refine⟨(by rintro rfl;rw[u1]at h;cases h),?_⟩
  rintro rfl
  rw[u2]at h
  cases h
  rw[b1]at hl
  obtain⟨l,rfl,hl2⟩:=B3E (f:=C1) (p:=FmFit) es (fun y hy=>(ih y hy).1 rfl)
  rw[D6]at hl
  rw[c1]
  exact⟨l,rfl,by omega,hl2⟩
 |struct ps h hl hp ih=>
  refine⟨?_,(by rintro rfl;rw[u2]at h;cases h)⟩
  rintro rfl
  rw[u1]at h
  cases h
  obtain⟨p0,p1,p2,p3,p4,rfl⟩:=B4V ps hl
  obtain⟨o,rfl,ho⟩:=A1z (k:=.i64) (by kernel_rfl) (hp 0 _ _ rfl rfl)
  obtain⟨n,rfl,hn⟩:=A1z (k:=.i64) (by kernel_rfl) (hp 1 _ _ rfl rfl)
  obtain⟨a,rfl,ha⟩:=B7c (hp 2 _ _ rfl rfl)
  obtain⟨s,rfl,hs⟩:=A6O (by kernel_rfl) (hp 3 _ _ rfl rfl)
  obtain⟨l,rfl,hl1,hl2⟩:=(ih 4 _ _ rfl rfl).2 rfl
  refine⟨.mk o n a s l,?_,.mk _ _ _ _ _ (A6P ho) (A6P hn) ha (by omega) hl1 hl2⟩
  rw[N2];rfl
theorem B12{x:D}(h:A1y Tryz.prog 28 x): ∃f:Fm,x= .agg (C1 f)∧FmFit f:=by
 obtain⟨ds,rfl,hv⟩:=A8k Tryz.underlying28 h
 obtain⟨f,rfl,hf⟩:=(B11 hv).1 rfl
 exact⟨f,rfl,hf⟩
theorem B3F:plainB Tryz.prog [28,26,22,25,114,23,71,40,4,3,9]=true:=by kernel_rfl
theorem B9u:laidOutB Tryz.pinned.checked.prog=true:=by kernel_rfl
theorem B7d:mapsRowed Tryz.pinned.checked.prog=true:=by kernel_rfl
theorem B7e:Tryz.pinned.checked.prog.stopsHeard=true:=by kernel_rfl
theorem C3S:Tryz.pinned.checked.prog.mayEnter=true:=by kernel_rfl
end Go.Proofs.YtibphjonmikciaaGreatDoor
namespace Go.Proofs.YtibphjonmikciaaGreatDoor.formulaOpposite
open Go Go.Av Go.Lexs Go.Lin Go.Fo Go.ChangeShapes Go.WideShapes Go.RowKit
theorem lifted(os:Os)(started:os.Started)(H:Type)(enc:TypeId×Value→H):
  ReturnsInHanded {} Tryz.checked os 10 .any (fun w args=>(Rows.formulaOppositeSpec.pre enc Tryz.prog Tryz.f10 Rows.formulaOppositeRow.domain false w args∧laidMetH Tryz.prog Rows.formulaOppositeRow.laid w)∧sizedMet enc Tryz.prog Tryz.f10 (OpenSpec.ofChange Rows.formulaOppositeSpec) false w args)
   (Rows.formulaOppositeSpec.post enc Tryz.prog Tryz.f10 false true false false):=by
 refine returnsInHanded_of_change_and (C:=Tryz.checked) (X:=fun w _=>laidMetH Tryz.prog Rows.formulaOppositeRow.laid w) (fun _ _ _ hh h=>h.of_heap hh) own started (by kernel_rfl) Tryz.func10
  (ChangeSpec.witness_shaped (enc:=enc) (C:=Tryz.checked) (os:=os) (X:=fun w _=>laidMetH Tryz.prog Rows.formulaOppositeRow.laid w) false (World.laidAll Tryz.prog os Rows.formulaOppositeRow.laid) #[.agg #[.int .i64 0,.int .i64 0,.slice none 0 0,.int .i64 0,.bool false,.string ⟨#[]⟩,.slice none 0 0],.slice none 0 0] 8 (World.laidAll_os _ _ _)
   (World.shaped_of_ZipB (by kernel_rfl) (by kernel_rfl)) (by kernel_rfl) (by kernel_rfl) (by kernel_rfl)
   (by rw[MakeChecks.laidMetH_plain _ _ _ (by kernel_rfl)];exact laidMet_laidAll _ (by kernel_rfl) (by kernel_rfl))) ?_
 intro W base args ds gs before hval hW _ hsz hL _
 rw[MakeChecks.laidMetH_plain _ _ _ (by kernel_rfl)]at hL
 obtain⟨tu,tv,hS⟩:=B7b hL (by simp[Rows.formulaOppositeRow]) (by simp[Rows.formulaOppositeRow]) (by simp[Rows.formulaOppositeRow])
 have hW':=hW
 obtain⟨p,q,hA0,hV,_,_,_⟩:=hW
 rw[Tryz.params10]at hA0 hval hsz
 obtain⟨v0,v1,d0,d1,p0,p1,rfl,rfl,rfl,h0,h1⟩:=trodAll_two hA0
 obtain⟨rfl,rfl⟩:=trodVars_none hV
 obtain⟨x0,k0,r0⟩:=B0n B3F (A4K tu tv) (by simp) (hval 0 _ _ rfl rfl) h0 (V9 hsz 0 _ _ rfl rfl)
 obtain⟨x1,k1,r1⟩:=B0n B3F (A4K tu tv) (by simp) (hval 1 _ _ rfl rfl) h1 (V9 hsz 1 _ _ rfl rfl)
 obtain⟨f,rfl,ff⟩:=B12 k0
 obtain⟨vs,rfl,fvs⟩:=B10 k1
 have hre:reachBytes=140737488351232:=rfl
 refine B4T B9r (by kernel_rfl) rfl (tb:=4) (by kernel_rfl) (by kernel_rfl) rfl hW' (A8m tu tv) (A4K tu tv) hS [.agg (C1 f),.sl 2 (Rw vlC vs)] rfl (fun i d hd=>?_) (fun Q hQ=>B7X f vs ff fvs _ (B4U tu tv) hQ)
 match i,hd with
 |0,hd=>simp at hd;subst hd;exact r0
 |1,hd=>simp at hd;subst hd;exact r1
 |i+2,hd=>simp at hd
set_option maxHeartbeats 4000000 in
theorem facts:joinedFacts Tryz.pinned.checked.prog 10 Tryz.f10 Rows.formulaOppositeSpec Rows.formulaOppositeRow=true:=by
 unfold joinedFacts
 simp only[C9c]
 repeat' (refine C9P ?_ ?_)
 all_goals first
  |with_reducible exact B9u
  |with_reducible exact B7d
  |with_reducible exact B7e
  |with_reducible exact C3S
  |(as_aux_lemma=>kernel_rfl)
theorem said:Rows.FormulaOppositeSaid:=
 OpenClaim.holds_of_wide 10 Tryz.f10 rfl rfl rfl rfl rfl rfl rfl ⟨rfl,rfl,rfl,rfl,rfl⟩ rfl rfl rfl rfl rfl (by kernel_rfl) Tryz.func10 facts
  (C9Q (by kernel_rfl)) (by unfold Func.isWrapper;first|(rw[if_pos (by decide+kernel)];kernel_rfl)|(rw[if_neg (by decide+kernel)];exact⟨rfl,rfl⟩))
  (fun os started H enc _=>lifted os started H enc)
theorem plain(f:FuncId)(fn:Func)(hf:Tryz.pinned.checked.prog.funcNamed "voussoir/voussoirlaw20.FormulaOpposite" =some f)(hfn:Tryz.pinned.checked.prog.funcs[f]? =some fn):
  true=Tryz.pinned.checked.prog.looks []∧∀(j:Nat) t,fn.params[j]? =some t→Tryz.pinned.checked.prog.wantsStandIn t=false:=by
 obtain rfl:f=10:=Option.some.inj ((show Tryz.prog.funcNamed "voussoir/voussoirlaw20.FormulaOpposite" =some 10 by kernel_rfl).symm.trans hf) |>.symm
 obtain rfl:fn=Tryz.f10:=(Option.some.inj (Tryz.func10.symm.trans hfn)).symm
 refine⟨by kernel_rfl,fun j t ht=>?_⟩
 have hall:((Tryz.f10.params.toList).all fun u=> !Tryz.prog.wantsStandIn u)=true:=by kernel_rfl
 have:=C90.1 hall t (by rw[C94];exact Array.mem_of_getElem? ht)
 exact(by simpa using this:Tryz.prog.wantsStandIn t=false)
theorem card:Rows.FormulaOppositeCardSaid:=
 Claim7.holds_tied_plain_at .later [] _ _ _ _ said (fun _ h=>by cases h) (by kernel_rfl) (fun _ h=>by cases h) formulaOpposite_row_tie rfl ⟨rfl,rfl⟩ (by kernel_rfl) rfl plain (by kernel_rfl)
end Go.Proofs.YtibphjonmikciaaGreatDoor.formulaOpposite
namespace Go.Proofs.YtibphjonmikciaaGreatDoor
theorem formulaOpposite_holds:Rows.FormulaOppositeCardSaid:=formulaOpposite.card
end Go.Proofs.YtibphjonmikciaaGreatDoor
end
