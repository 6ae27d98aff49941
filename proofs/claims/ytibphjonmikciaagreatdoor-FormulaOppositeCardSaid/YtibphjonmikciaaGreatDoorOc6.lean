/- FormulaOpposite, proved: for every input the law returns true, and the arguments read as before; the listed tables hold what the program's text lays (the card). No other condition than the row's own. -/
import Derived.Test.YtibphjonmikciaaGreatDoorProg
import Derived.Test.YtibphjonmikciaaGreatDoorRows
import Derived.Test.YtibphjonmikciaaGreatDoorCards
import Derived.Test.YtibphjonmikciaaGreatDoorTie
import Derived.Test.YtibphjonmikciaaGreatDoorOc5
set_option linter.unusedSimpArgs false
set_option linter.unusedVariables false
set_option maxRecDepth 20000
namespace Go.Av
theorem A18{b sz:Nat}{es:List (List D)}{d:D}{H H':Heap}{Q:D→Heap→Prop}(hb:H b=some (.vec sz es))
  (A: ∀k o',H' k=some o'→k≠b∧∃o,H k=some o∧OFz b sz es o o') (h:Fin Q d H'):Fin Q d H:=by
 unfold Fin at h⊢;obtain⟨V,d1,h1,x⟩:=h;refine⟨V,d1,Shift.trans (fun w v hr hs=>?_) h1,x⟩;have e: ∀k,H.held k=false→H'.held k=false:=fun k hk=>by
  cases ho:H' k with
  |none=>exact G9 ho
  |some o'=>
   obtain⟨_,o,h1,x⟩:=A k o' ho;rw[I6 h1]at hk;rw[I6 ho];cases x<;>exact hk
 have C: ∀{d d':D} {v:Value},Fz b sz es d d'→R w H d v→R w H' d' v:=fun q hr=>(q.R hs hb hr).mono (D1N _ _) fun k _ hk=>by
  by_cases y:k=b
  ·subst y;cases ho:H' k with
   |none=>exact G9 ho
   |some o'=>exact absurd rfl (A k o' ho).1
  ·refine e k ?_;rw[←A0D (H:=H) (H':=H.del b) (k:=k) (by unfold Heap.del;rw[if_neg y])];exact hk
 refine⟨C (.same d) hr,fun k o' ho=>?_,e⟩;obtain⟨_,o,h1,x⟩:=A k o' ho;have r:=hs k o h1;cases x with
 |same=>exact r.mono (D1N H w) (fun k _ hk=>e k hk) rfl
 |box cs cs' Z hl q=>
  obtain⟨c,T,lo,G,I,J,O,z,L⟩:=r;refine⟨c,T,lo,G,I,J,by omega,fun j d' m=>?_,L⟩;have W:=(C9z.1 m).1;have u:cs[j]? =some (cs[j]'(by omega)):=C96 _;have p:=q j _ _ u m;exact⟨p.one (z j _ u).1,C p (z j _ u).2⟩
 |vec s xs xs' hl q=>
  obtain⟨c,T,lo,G,I,J,O,z,L,U⟩:=r;refine⟨c,T,lo,G,I,J,O,by rw[←hl];exact z,fun i x' g=>?_,fun i x' j d' g m=>?_⟩
  ·have M:=(C9z.1 g).1;have hx:xs[i]? =some (xs[i]'(by omega)):=C96 _;rw[←(q i _ _ hx g).1];exact L i _ hx
  ·have M:=(C9z.1 g).1;have hx:xs[i]? =some (xs[i]'(by omega)):=C96 _;have hlen:=(q i _ _ hx g).1;have W:=(C9z.1 m).1;have u:(xs[i]'(by omega))[j]? =some ((xs[i]'(by omega))[j]'(by omega)):=C96 _;have p:=(q i _ _ hx g).2 j _ _ u m;exact⟨p.one (U i _ j _ hx u).1,C p (U i _ j _ hx u).2⟩
def fzD(b sz:Nat)(es:List (List D)):D→D→Prop
 |d,d'=>d=d'∨(d= .vec b sz 0 es.length∧d'= .sl sz es)
theorem C3W{b sz:Nat}{es:List (List D)}{d d':D}(h:fzD b sz es d d'):Fz b sz es d d':=by
 rcases h with rfl|⟨rfl,rfl⟩
 ·exact .same _
 ·exact .all
def fzL(b sz:Nat)(es:List (List D)):List D→List D→Prop
 | [],[]=>True
 |d::l,d'::l'=>fzD b sz es d d'∧fzL b sz es l l'
 |_,_=>False
theorem A8n{b sz:Nat}{es:List (List D)}: ∀{l l':List D},fzL b sz es l l'→l.length=l'.length∧∀(i:Nat) d d',l[i]? =some d→l'[i]? =some d'→Fz b sz es d d'
 | [],[],_=>⟨rfl,fun i d d' h=>by cases h⟩
 |d::l,d'::l',h=>by
  obtain⟨h1,g⟩:=A8n h.2;refine⟨by rw[C9u,C9u,h1],fun i x x' hx e=>?_⟩;cases i with
  |zero=>cases hx;cases e;exact C3W h.1
  |succ i=>exact g i x x' hx e
 | [],_::_,h=>h.elim
 |_::_,[],h=>h.elim
def fzV(b sz:Nat)(es:List (List D)):List (List D)→List (List D)→Prop
 | [],[]=>True
 |d::l,d'::l'=>fzL b sz es d d'∧fzV b sz es l l'
 |_,_=>False
theorem A8o{b sz:Nat}{es:List (List D)}: ∀{l l':List (List D)},fzV b sz es l l'→l.length=l'.length∧∀(i:Nat) x x',l[i]? =some x→l'[i]? =some x'→x.length=x'.length∧∀(j:Nat) d d',x[j]? =some d→x'[j]? =some d'→Fz b sz es d d'
 | [],[],_=>⟨rfl,fun i d d' h=>by cases h⟩
 |d::l,d'::l',h=>by
  obtain⟨h1,g⟩:=A8o h.2;refine⟨by rw[C9u,C9u,h1],fun i x x' hx e=>?_⟩;cases i with
  |zero=>cases hx;cases e;exact A8n h.1
  |succ i=>exact g i x x' hx e
 | [],_::_,h=>h.elim
 |_::_,[],h=>h.elim
theorem A2W{b sz c s:Nat}{es xs xs':List (List D)}{H G:Heap}(hc:H c=some (.vec s xs))(d:c≠b)(g:fzV b sz es xs xs')(h: ∀k o',G k=some o'→k≠b∧∃o,H k=some o∧OFz b sz es o o'):
  ∀k o',(G.set c (.vec s xs')) k=some o'→k≠b∧∃o,H k=some o∧OFz b sz es o o':=by
 intro k o' hk;by_cases e:k=c
 ·subst e;rw[A2]at hk;cases hk;exact⟨d,_,hc,.vec _ _ _ (A8o g).1 (A8o g).2⟩
 ·rw[A3 _ e]at hk;exact h k o' hk
theorem B7V{b sz:Nat}{es:List (List D)}{H G:Heap}(h:G.Le H)(hb:G b=none): ∀k o',G k=some o'→k≠b∧∃o,H k=some o∧OFz b sz es o o':=fun k o' hk=>⟨fun e=>(by rw[e,hb]at hk;cases hk),o',h k o' hk,.same _⟩
def nlD:D→D→Prop
 |d,d'=>d=d'∨NilR d d'
def nlL:List D→List D→Prop
 | [],[]=>True
 |d::l,d'::l'=>nlD d d'∧nlL l l'
 |_,_=>False
theorem A5I: ∀{l l':List D},nlL l l'→l.length=l'.length∧∀(i:Nat) d d',l[i]? =some d→l'[i]? =some d'→NilR d d'
 | [],[],_=>⟨rfl,fun i d d' h=>by cases h⟩
 |d::l,d'::l',h=>by
  obtain⟨h1,g⟩:=A5I h.2;refine⟨by rw[C9u,C9u,h1],fun i x x' hx e=>?_⟩;cases i with
  |zero=>cases hx;cases e;rcases h.1 with rfl|q;exact .same _;exact q
  |succ i=>exact g i x x' hx e
 | [],_::_,h=>h.elim
 |_::_,[],h=>h.elim
def nlV:List (List D)→List (List D)→Prop
 | [],[]=>True
 |d::l,d'::l'=>nlL d d'∧nlV l l'
 |_,_=>False
theorem A5J: ∀{l l':List (List D)},nlV l l'→l.length=l'.length∧∀(i:Nat) x x',l[i]? =some x→l'[i]? =some x'→x.length=x'.length∧∀(j:Nat) d d',x[j]? =some d→x'[j]? =some d'→NilR d d'
 | [],[],_=>⟨rfl,fun i d d' h=>by cases h⟩
 |d::l,d'::l',h=>by
  obtain⟨h1,g⟩:=A5J h.2;refine⟨by rw[C9u,C9u,h1],fun i x x' hx e=>?_⟩;cases i with
  |zero=>cases hx;cases e;exact A5I h.1
  |succ i=>exact g i x x' hx e
 | [],_::_,h=>h.elim
 |_::_,[],h=>h.elim
theorem B7W{z:Nat}{es es':List (List D)}(h:nlV es es'):NilR (.sl z es) (.sl z es'):=
 .sl z es es' (A5J h).1 (fun i e e' h1 g=>((A5J h).2 i e e' h1 g).1) fun i e e' j d d' h1 g m o=>((A5J h).2 i e e' h1 g).2 j d d' m o
theorem C3X{cs cs':List D}(h:nlL cs cs'):NilR (.agg cs) (.agg cs'):=.agg _ _ (A5I h).1 (A5I h).2
end Go.Av
namespace Go.Proofs.YtibphjonmikciaaGreatDoor
open Go Go.Av Go.Lexs Go.Lin Go.Fo
attribute [local irreducible] ACalls W4
theorem A7f{Q}(H:Heap)(h:Q (.agg (C0 fxF)) H):D7 44 [] H Q:=by
 refine A8 [] A5 Tryz.func44 rfl ?_;simp only[go_sem,seval,Tryz.results44];repeat' (first|simp only[go_sem,seval]|simp(disch:=first|omega|grind) only[B9,F0]|(intro m;try simp only[A6]at m))
 rename_i A J a L p hp q hq d1 h1 d C g;have u:=m;clear m;have i:a≠A∧a≠p∧a≠q∧a≠d1∧a≠d∧a≠g:=⟨L.1,hp.1.symm,hq.2.1.symm,h1.2.2.1.symm,C.2.2.2.1.symm,u.2.2.2.2.1.symm⟩
 have j:d1≠A∧d1≠d∧d1≠g:=⟨h1.2.2.2.1,C.1.symm,u.2.1.symm⟩
 have ne:d≠A∧d≠g:=⟨C.2.2.2.2.1,u.1.symm⟩
 have U:g≠A:=u.2.2.2.2.2.1;have T:H a=none:=L.2;have M:H d1=none:=h1.2.2.2.2;have G:H d=none:=C.2.2.2.2.2;have V:H p=none:=hp.2.2;have W:H q=none:=hq.2.2.2;have I:H g=none:=u.2.2.2.2.2.2;clear L hp hq h1 C u;refine A18 (b:=a) (sz:=2) (es:=[[.str ⟨#[120]⟩,.int .i64 1]]) (by rw[A3 _ i.1,A3 _ i.2.2.2.2.2,A3 _ i.2.2.2.2.1,A3 _ i.2.2.2.1,A3 _ i.2.2.1,A3 _ i.2.1,A2]) (H':=((H.set d1 (.vec 7 [[.int .i64 3,.int .i64 0,.nilsl,.int .i64 0,.bool false,.str ⟨#[98]⟩,.nilsl]])).set d (.vec 7 ([[.int .i64 2,.int .i64 0,.sl 2 [[.str ⟨#[120]⟩,.int .i64 1]],.int .i64 (-3),.bool true,.str ⟨#[]⟩,.nilsl],[.int .i64 4,.int .i64 0,.nilsl,.int .i64 0,.bool false,.str ⟨#[]⟩,.vec d1 7 0 1]]))).set g (.vec 7 ([[.int .i64 2,.int .i64 0,.sl 2 [[.str ⟨#[120]⟩,.int .i64 1]],.int .i64 (-1),.bool false,.str ⟨#[]⟩,.nilsl],[.int .i64 6,.int .i64 0,.nilsl,.int .i64 0,.bool false,.str ⟨#[]⟩,.vec d 7 0 2]]))) ?_ ?_
 ·refine A2W (xs:=[[.int .i64 2,.int .i64 0,.vec a 2 0 1,.int .i64 (-1),.bool false,.str ⟨#[]⟩,.nilsl],[.int .i64 6,.int .i64 0,.nilsl,.int .i64 0,.bool false,.str ⟨#[]⟩,.vec d 7 0 2]]) (by rw[A3 _ U,A2]) i.2.2.2.2.2.symm (by simp[fzV,fzL,fzD]) (A2W (xs:=[[.int .i64 2,.int .i64 0,.vec a 2 0 1,.int .i64 (-3),.bool true,.str ⟨#[]⟩,.nilsl],[.int .i64 4,.int .i64 0,.nilsl,.int .i64 0,.bool false,.str ⟨#[]⟩,.vec d1 7 0 1]]) (by rw[A3 _ ne.1,A3 _ ne.2,A2]) i.2.2.2.2.1.symm (by simp[fzV,fzL,fzD]) (A2W (xs:=[[.int .i64 3,.int .i64 0,.nilsl,.int .i64 0,.bool false,.str ⟨#[98]⟩,.nilsl]]) (by rw[A3 _ j.1,A3 _ j.2.2,A3 _ j.2.1,A2]) i.2.2.2.1.symm (by simp[fzV,fzL,fzD]) (B7V ?_ T)));intro k o hk;by_cases O:k=A
  ·rw[O,J]at hk;cases hk
  ·have y: ∀x,H x=none→k≠x:=fun x hx e=>by rw[e,hx]at hk;cases hk
   rw[A3 _ O,A3 _ (y _ I),A3 _ (y _ G),A3 _ (y _ M),A3 _ (y _ W),A3 _ (y _ V),A3 _ (y _ T),A3 _ O];exact hk
 refine A18 (b:=d1) (sz:=7) (es:=[[.int .i64 3,.int .i64 0,.nilsl,.int .i64 0,.bool false,.str ⟨#[98]⟩,.nilsl]]) (by rw[A3 _ j.2.2,A3 _ j.2.1,A2]) (H':=(H.set d (.vec 7 ([[.int .i64 2,.int .i64 0,.sl 2 [[.str ⟨#[120]⟩,.int .i64 1]],.int .i64 (-3),.bool true,.str ⟨#[]⟩,.nilsl],[.int .i64 4,.int .i64 0,.nilsl,.int .i64 0,.bool false,.str ⟨#[]⟩,.sl 7 [[.int .i64 3,.int .i64 0,.nilsl,.int .i64 0,.bool false,.str ⟨#[98]⟩,.nilsl]]]]))).set g (.vec 7 ([[.int .i64 2,.int .i64 0,.sl 2 [[.str ⟨#[120]⟩,.int .i64 1]],.int .i64 (-1),.bool false,.str ⟨#[]⟩,.nilsl],[.int .i64 6,.int .i64 0,.nilsl,.int .i64 0,.bool false,.str ⟨#[]⟩,.vec d 7 0 2]]))) ?_ ?_
 ·refine A2W (xs:=[[.int .i64 2,.int .i64 0,.sl 2 [[.str ⟨#[120]⟩,.int .i64 1]],.int .i64 (-1),.bool false,.str ⟨#[]⟩,.nilsl],[.int .i64 6,.int .i64 0,.nilsl,.int .i64 0,.bool false,.str ⟨#[]⟩,.vec d 7 0 2]]) (A2 _ _) j.2.2.symm (by simp[fzV,fzL,fzD]) (A2W (xs:=[[.int .i64 2,.int .i64 0,.sl 2 [[.str ⟨#[120]⟩,.int .i64 1]],.int .i64 (-3),.bool true,.str ⟨#[]⟩,.nilsl],[.int .i64 4,.int .i64 0,.nilsl,.int .i64 0,.bool false,.str ⟨#[]⟩,.vec d1 7 0 1]]) (by rw[A3 _ ne.2,A2]) j.2.1.symm (by simp[fzV,fzL,fzD]) (B7V ?_ M));exact(A0 M).trans ((A0 (by rw[A3 _ j.2.1.symm];exact G)).trans (A0 (by rw[A3 _ ne.2.symm,A3 _ j.2.2.symm];exact I)))
 refine A18 (b:=d) (sz:=7) (es:=[[.int .i64 2,.int .i64 0,.sl 2 [[.str ⟨#[120]⟩,.int .i64 1]],.int .i64 (-3),.bool true,.str ⟨#[]⟩,.nilsl],[.int .i64 4,.int .i64 0,.nilsl,.int .i64 0,.bool false,.str ⟨#[]⟩,.sl 7 [[.int .i64 3,.int .i64 0,.nilsl,.int .i64 0,.bool false,.str ⟨#[98]⟩,.nilsl]]]]) (by rw[A3 _ ne.2,A2]) (H':=H.set g (.vec 7 ([[.int .i64 2,.int .i64 0,.sl 2 [[.str ⟨#[120]⟩,.int .i64 1]],.int .i64 (-1),.bool false,.str ⟨#[]⟩,.nilsl],[.int .i64 6,.int .i64 0,.nilsl,.int .i64 0,.bool false,.str ⟨#[]⟩,.sl 7 ([[.int .i64 2,.int .i64 0,.sl 2 [[.str ⟨#[120]⟩,.int .i64 1]],.int .i64 (-3),.bool true,.str ⟨#[]⟩,.nilsl],[.int .i64 4,.int .i64 0,.nilsl,.int .i64 0,.bool false,.str ⟨#[]⟩,.sl 7 [[.int .i64 3,.int .i64 0,.nilsl,.int .i64 0,.bool false,.str ⟨#[98]⟩,.nilsl]]]])]]))) ?_ ?_
 ·refine A2W (xs:=[[.int .i64 2,.int .i64 0,.sl 2 [[.str ⟨#[120]⟩,.int .i64 1]],.int .i64 (-1),.bool false,.str ⟨#[]⟩,.nilsl],[.int .i64 6,.int .i64 0,.nilsl,.int .i64 0,.bool false,.str ⟨#[]⟩,.vec d 7 0 2]]) (A2 _ _) ne.2.symm (by simp[fzV,fzL,fzD]) (B7V ?_ G);exact(A0 G).trans (A0 (by rw[A3 _ ne.2.symm];exact I))
 refine T6 (b:=g) (sz:=7) (es:=[[.int .i64 2,.int .i64 0,.sl 2 [[.str ⟨#[120]⟩,.int .i64 1]],.int .i64 (-1),.bool false,.str ⟨#[]⟩,.nilsl],[.int .i64 6,.int .i64 0,.nilsl,.int .i64 0,.bool false,.str ⟨#[]⟩,.sl 7 ([[.int .i64 2,.int .i64 0,.sl 2 [[.str ⟨#[120]⟩,.int .i64 1]],.int .i64 (-3),.bool true,.str ⟨#[]⟩,.nilsl],[.int .i64 4,.int .i64 0,.nilsl,.int .i64 0,.bool false,.str ⟨#[]⟩,.sl 7 [[.int .i64 3,.int .i64 0,.nilsl,.int .i64 0,.bool false,.str ⟨#[98]⟩,.nilsl]]]])]]) (cs':=[.int .i64 5,.int .i64 0,.nilsl,.int .i64 0,.bool false,.str ⟨#[]⟩,.sl 7 ([[.int .i64 2,.int .i64 0,.sl 2 [[.str ⟨#[120]⟩,.int .i64 1]],.int .i64 (-1),.bool false,.str ⟨#[]⟩,.nilsl],[.int .i64 6,.int .i64 0,.nilsl,.int .i64 0,.bool false,.str ⟨#[]⟩,.sl 7 ([[.int .i64 2,.int .i64 0,.sl 2 [[.str ⟨#[120]⟩,.int .i64 1]],.int .i64 (-3),.bool true,.str ⟨#[]⟩,.nilsl],[.int .i64 4,.int .i64 0,.nilsl,.int .i64 0,.bool false,.str ⟨#[]⟩,.sl 7 [[.int .i64 3,.int .i64 0,.nilsl,.int .i64 0,.bool false,.str ⟨#[98]⟩,.nilsl]]]])]])]) (A2 _ _) rfl (A8n (by simp[fzL,fzD])).2 ?_;refine E3 (d':=.agg (C0 fxF)) ?_ (D1H ?_ h)
 ·have e:C0 fxF= [.int .i64 5,.int .i64 0,.sl 2 [],.int .i64 0,.bool false,.str ⟨#[]⟩,.sl 7 ([[.int .i64 2,.int .i64 0,.sl 2 [[.str ⟨#[120]⟩,.int .i64 1]],.int .i64 (-1),.bool false,.str ⟨#[]⟩,.sl 7 []],[.int .i64 6,.int .i64 0,.sl 2 [],.int .i64 0,.bool false,.str ⟨#[]⟩,.sl 7 ([[.int .i64 2,.int .i64 0,.sl 2 [[.str ⟨#[120]⟩,.int .i64 1]],.int .i64 (-3),.bool true,.str ⟨#[]⟩,.sl 7 []],[.int .i64 4,.int .i64 0,.sl 2 [],.int .i64 0,.bool false,.str ⟨#[]⟩,.sl 7 [[.int .i64 3,.int .i64 0,.sl 2 [],.int .i64 0,.bool false,.str ⟨#[98]⟩,.sl 7 []]]]])]])]:=rfl;rw[e];have r: ∀z,NilR .nilsl (.sl z []):=NilR.nil;refine C3X ?_;refine⟨.inl rfl,.inl rfl,.inr (r _),.inl rfl,.inl rfl,.inl rfl,.inr (B7W ?_),trivial⟩;refine⟨⟨.inl rfl,.inl rfl,.inl rfl,.inl rfl,.inl rfl,.inl rfl,.inr (r _),trivial⟩,⟨.inl rfl,.inl rfl,.inr (r _),.inl rfl,.inl rfl,.inl rfl,.inr (B7W ?_),trivial⟩,trivial⟩;refine⟨⟨.inl rfl,.inl rfl,.inl rfl,.inl rfl,.inl rfl,.inl rfl,.inr (r _),trivial⟩,⟨.inl rfl,.inl rfl,.inr (r _),.inl rfl,.inl rfl,.inl rfl,.inr (B7W ?_),trivial⟩,trivial⟩;exact⟨⟨.inl rfl,.inl rfl,.inr (r _),.inl rfl,.inl rfl,.inl rfl,.inr (r _),trivial⟩,trivial⟩
 ·intro k o hk;have:k≠g:=fun e=>by rw[e,I]at hk;cases hk
  show ((H.set g _).del g) k=_;rw[F0 this,A3 _ this];exact hk
theorem B7X(f:Fm)(x:FmFit f): ∀{Q:D→Heap→Prop} (H:Heap) (h:Q (.bool true) H),D7 21 [.agg (C0 f),.agg (C0 f)] H Q:=by
 induction x with
 |mk o n l s ks ho hn hl hs hk I y=>
 intro Q H h;have e:C0 (.mk o n l s ks)= [.int .i64 o,.int .i64 n,.sl 2 (Rw Q7 l.t),.int .i64 l.k,.bool l.e,.str s,.sl 7 (Rw C0 ks)]:=N3 _;rw[e];refine A8 [(6,.par)] A5 Tryz.func21 rfl ?_;simp only[go_sem,seval,Tryz.results21];intro g z j r;simp only[A6]at r;have e2:((H.set g (.box [.int .i64 o,.int .i64 n,.sl 2 (Rw Q7 l.t),.int .i64 l.k,.bool l.e,.str s,.sl 7 (Rw C0 ks)])).set j (.box [.int .i64 o,.int .i64 n,.sl 2 (Rw Q7 l.t),.int .i64 l.k,.bool l.e,.str s,.sl 7 (Rw C0 ks)])) g=some (.box [.int .i64 o,.int .i64 n,.sl 2 (Rw Q7 l.t),.int .i64 l.k,.bool l.e,.str s,.sl 7 (Rw C0 ks)]):=by rw[A3 _ r.1.symm,A2]
 have e3:((H.set g (.box [.int .i64 o,.int .i64 n,.sl 2 (Rw Q7 l.t),.int .i64 l.k,.bool l.e,.str s,.sl 7 (Rw C0 ks)])).set j (.box [.int .i64 o,.int .i64 n,.sl 2 (Rw Q7 l.t),.int .i64 l.k,.bool l.e,.str s,.sl 7 (Rw C0 ks)])) j=some (.box [.int .i64 o,.int .i64 n,.sl 2 (Rw Q7 l.t),.int .i64 l.k,.bool l.e,.str s,.sl 7 (Rw C0 ks)]):=A2 _ _;have p:H.Le ((H.set g (.box [.int .i64 o,.int .i64 n,.sl 2 (Rw Q7 l.t),.int .i64 l.k,.bool l.e,.str s,.sl 7 (Rw C0 ks)])).set j (.box [.int .i64 o,.int .i64 n,.sl 2 (Rw Q7 l.t),.int .i64 l.k,.bool l.e,.str s,.sl 7 (Rw C0 ks)])):=(A0 z).trans (A0 (by simp only[A6];exact r));generalize (H.set g (.box [.int .i64 o,.int .i64 n,.sl 2 (Rw Q7 l.t),.int .i64 l.k,.bool l.e,.str s,.sl 7 (Rw C0 ks)])).set j (.box [.int .i64 o,.int .i64 n,.sl 2 (Rw Q7 l.t),.int .i64 l.k,.bool l.e,.str s,.sl 7 (Rw C0 ks)])=Bs at e2 e3 p⊢;have A:g∈[g,j]:=by simp
 have C:j∈[g,j]:=by simp
 have hc: ∀{Q:D→Heap→Prop} (H:Heap) (h:Q (.bool true) H),D7 60 [.agg [.sl 2 (Rw Q7 l.t),.int .i64 l.k,.bool l.e],.agg [.sl 2 (Rw Q7 l.t),.int .i64 l.k,.bool l.e]] H Q:=fun H h=>B9K l hl H h;repeat' (first|simp only[go_sem,seval,e2,e3]|with_reducible refine hc _ ?_)
 refine C9 [2,3,44] (fun(i:Nat)=>[(45,.int .i64 i)]) (fun(i:Nat)=>Bs) (fun(i:Nat)=>i≤ks.length) (fun(i:Nat)=>ks.length-i) (0) (D0A _) (by(try simp only[go_sem,seval])<;>(try simp(disch:=omega) [A4])) (by first|exact D1G _|exact A0 (by assumption)|exact B2 (by assumption)|simp only[Heap.Le,Heap.set,Heap.del]at* <;>grind) ?_;rintro J rfl i L;by_cases d:i<ks.length
 ·have m:decide ((i:Int)<ks.length)=true:=C9r (by omega);have q:(i:Int)<ks.length:=by omega
  have u: ∀{Q:D→Heap→Prop} (H:Heap) (h:Q (.bool true) H),D7 21 [.agg (C0 ks[i]),.agg (C0 ks[i])] H Q:=y ks[i] (C93 d);repeat' simp only[go_sem,seval,m,q,A9 _ _ d,C1 _ _ d]
  refine F5 (fun G=>if G=10 then .bool true else .undef) [g,j] ?_;repeat' (first|with_reducible apply C9p|simp only[go_sem,seval,m,q,A9 _ _ d,C1 _ _ d,e2,e3,A,C]|simp(disch:=omega) only[A4,A9,D0]|with_reducible refine R0 (fun H' Q hro hq=>u H' hq) ?_|omega)
  exact C2 (i+1) (by omega) (by omega) (by(try simp only[go_sem,seval])<;>(try simp(disch:=omega) [A4])) (by simp only[E6,D2,D3]at* <;>grind)
 ·have m:decide ((i:Int)<ks.length)=false:=C9s (by omega);repeat' simp only[go_sem,seval,m]
  exact D1H p h
theorem B9s{Q}(l:List VlV)(j:A4a l)(H:Heap)(h:Q (.bool true) H):D7 35 [.sl 2 (Rw vlC l),.sl 2 (Rw vlC l)] H Q:=by
 refine A8 [(6,.par)] A5 Tryz.func35 rfl ?_;simp only[go_sem,seval,Tryz.results35];have hlen:=j.len;refine C9 [0,1,12] (fun(i:Nat)=>[(13,.int .i64 i)]) (fun(i:Nat)=>H) (fun(i:Nat)=>i≤l.length) (fun(i:Nat)=>l.length-i) (0) (D0A _) (by(try simp only[go_sem,seval])<;>(try simp(disch:=omega) [A4])) (by first|exact D1G _|exact A0 (by assumption)|exact B2 (by assumption)|simp only[Heap.Le,Heap.set,Heap.del]at* <;>grind) ?_;rintro m rfl i o;by_cases d:i<l.length
 ·have e:decide ((i:Int)<l.length)=true:=C9r (by omega);have g:(i:Int)<l.length:=by omega
  repeat' simp only[go_sem,seval,e,g,A9 _ _ d,C1 _ _ d]
  refine F5 (fun p=>.undef) [] ?_;repeat' (first|with_reducible apply C9p|simp only[go_sem,seval,e,g,A9 _ _ d,C1 _ _ d]|simp(disch:=omega) only[A4,A9,D0]|omega)
  exact C2 (i+1) (by omega) (by omega) (by(try simp only[go_sem,seval])<;>(try simp(disch:=omega) [A4])) (by simp only[E6,D2,D3]at* <;>grind)
 ·have e:decide ((i:Int)<l.length)=false:=C9s (by omega);repeat' simp only[go_sem,seval,e]
  exact D1K h
end Go.Proofs.YtibphjonmikciaaGreatDoor
namespace Go.Fo
open Go Go.Av Go.Lexs Go.Lin
theorem RdS.same{H H':Heap}{br:Nat}{r:List UInt8}{bad:Bool}(h:RdS H H' br r bad)(hb:H br=some (.box [.str (S r),.bool bad])):H'=H:=by
 funext k
 by_cases e:k=br
 ·rw[e,h.here,hb]
 ·exact h.els k e
theorem A1V{H i H':Heap}{br d:Nat}{r:List UInt8}{bad:Bool}(s:RdS i H' br r bad)(g:(H.del br).Le i)(j:H d=none)(h:br≠d)(V:Av.Obj):(H.set br (.box [.str (S r),.bool bad])).Le (H'.set d V):=fun k o hk=>by
 by_cases e:k=br
 ·subst e;rw[A2]at hk;rw[A3 _ h,s.here];exact hk
 ·rw[A3 _ e]at hk;have m:k≠d:=fun e=>by rw[e,j]at hk;cases hk
  rw[A3 _ m,s.els k e];exact g k o (by rw[F0 e];exact hk)
theorem B9t{H i H':Heap}{br g x:Nat}{r:List UInt8}{bad:Bool}(s:RdS i H' br r bad)(d:(H.del br).Le i)(p:H g=none)(h:br≠g)(hx:H' x=none)(o1 V:Av.Obj):(H.set br (.box [.str (S r),.bool bad])).Le (((H'.set x o1).set g V).del x):=fun k o hk=>by
 have h1:=A1V s d p h V k o hk;have j:k≠x:=fun e=>by
  by_cases e2:k=br
  ·rw[←e,e2,s.here]at hx;cases hx
  ·rw[A3 _ e2]at hk;have:=d k o (by rw[F0 e2];exact hk);rw[←s.els k e2,e,hx]at this;cases this
 rw[F0 j];by_cases m:k=g
 ·subst m;rw[A2]at h1⊢;exact h1
 ·rw[A3 _ m]at h1⊢;rw[A3 _ j];exact h1
theorem A7g(r:List UInt8):P7 r=r.drop (L3 r).length:=by
 have h:L3 r++P7 r=r:=List.takeWhile_append_dropWhile
 conv=>rhs;rw[←h]
 rw[List.drop_left' (by rw[h])]
theorem B4c{d:List UInt8→Fm×List UInt8×Bool}(g: ∀r,∃j,(d r).2.1=r.drop j): ∀n r out,∃j,(A0w d n r out).2.1=r.drop j:=by
 intro n
 induction n with
 |zero=>intro r out;exact⟨0,rfl⟩
 |succ n h=>
  intro r out;obtain⟨j,e⟩:=g r;rw[A0w];split
  ·exact⟨j+1,by show (d r).2.1.drop 1=_;rw[e,D0z]⟩
  ·split
   ·exact⟨j,e⟩
   ·split
    ·obtain⟨k,hk⟩:=h ((d r).2.1.drop 2) (out++[(d r).1]);exact⟨j+(2+k),by rw[hk,e,D0z,D0z]⟩
    ·exact⟨j,e⟩
theorem B4d: ∀e r,∃j,(G2 e r).2.1=r.drop j:=by
 intro e
 induction e with
 |zero=>intro r;exact⟨0,rfl⟩
 |succ e g=>
  intro r;have hl: ∀k,∃j,(W9 (G2 e) (r.drop k)).2.1=r.drop j:=fun k=>by
   unfold W9;split
   ·exact⟨k+1,by show (r.drop k).drop 1=_;rw[D0z]⟩
   ·obtain⟨j,d⟩:=B4c g ((r.drop k).length+1) (r.drop k) [];exact⟨k+j,by rw[d,D0z]⟩
  rw[G2];split
  ·exact⟨1+(L3 (r.drop 1)).length,by show P7 (r.drop 1)=_;rw[A7g,D0z]⟩
  ·split
   ·obtain⟨j,d⟩:=g (r.drop 1);exact⟨1+j,by show (G2 e (r.drop 1)).2.1=_;rw[d,D0z]⟩
   ·split
    ·exact hl 2
    ·split
     ·exact hl 2
     ·exact⟨_,A7g r⟩
end Go.Fo
namespace Go.Proofs.YtibphjonmikciaaGreatDoor
open Go Go.Av Go.Lexs Go.Lin Go.Fo
attribute [local irreducible] ACalls W4
theorem A8p(w:List UInt8)(l:List UInt8):(S w=⟨l.toArray⟩)=(w=l):=propext ⟨fun h=>C44 h,fun h=>by rw[h];rfl⟩
theorem C3Y:A7d 0:=by
 intro Q br r hr hx H u hb h;have p:((61:Int)-(0:Nat))=61:=by omega
 rw[p];refine A8 [] A5 Tryz.func71 rfl ?_;simp only[go_sem,seval,Tryz.results71];intro g j;have i:br≠g:=fun e=>by rw[←e,hb]at j;cases j
 have m:(H.set g (.box [.int .i64 0,.int .i64 0,.nilsl,.int .i64 0,.bool false,.str ⟨#[]⟩,.nilsl])) br=some (.box [.str (S r),.bool false]):=by rw[A3 _ i];exact hb
 have o:(H.set g (.box [.int .i64 0,.int .i64 0,.nilsl,.int .i64 0,.bool false,.str ⟨#[]⟩,.nilsl])) g=some (.box [.int .i64 0,.int .i64 0,.nilsl,.int .i64 0,.bool false,.str ⟨#[]⟩,.nilsl]):=A2 _ _;have d:(H.del br).Le (H.set g (.box [.int .i64 0,.int .i64 0,.nilsl,.int .i64 0,.bool false,.str ⟨#[]⟩,.nilsl])):=(D9 _ _).trans (A0 j);generalize H.set g (.box [.int .i64 0,.int .i64 0,.nilsl,.int .i64 0,.bool false,.str ⟨#[]⟩,.nilsl])=Bs at m o d⊢;have q:(Bs.set br (.box [.str (S r),.bool true])) g=some (.box [.int .i64 0,.int .i64 0,.nilsl,.int .i64 0,.bool false,.str ⟨#[]⟩,.nilsl]):=by rw[A3 _ i.symm];exact o
 repeat' simp only[go_sem,seval,m,q]
 exact E3 (A4F 0 0 0 false D1) (D1H (A1V (RdS.set Bs br r true) d j i _) (h _ (RdS.set _ _ _ _)))
set_option maxHeartbeats 4000000 in
theorem C3Z(e:Nat)(he:e+1≤60)(hF:A7d e):A7d (e+1):=by
 intro Q br r hr hx H hT hb h;obtain⟨dp,c0⟩: ∃dp:Int,dp=61-((e+1:Nat):Int):=⟨_,rfl⟩
 have c7:1≤dp:=by omega
 have c8:dp≤60:=by omega
 have T:IntKind.i64.wrap (dp+1)=61-(e:Int):=by rw[A4 (by omega) (by omega)];omega
 rw[←c0];refine A8 [] A5 Tryz.func71 rfl ?_;simp only[go_sem,seval,Tryz.results71];intro m y;have d:br≠m:=fun e=>by rw[←e,hb]at y;cases y
 obtain⟨Z,hZ⟩: ∃Z:List D,Z= [.int .i64 0,.int .i64 0,.nilsl,.int .i64 0,.bool false,.str ⟨#[]⟩,.nilsl]:=⟨_,rfl⟩
 rw[←hZ];have e4:(H.set m (.box Z)) m=some (.box Z):=A2 _ _;have z:(H.set m (.box Z)) br=some (.box [.str (S r),.bool false]):=by rw[A3 _ d];exact hb
 have a4:H.Le (H.set m (.box Z)):=A0 y;have g:(H.del br).Le (H.set m (.box Z)):=(D9 _ _).trans a4;generalize H.set m (.box Z)=Bs at e4 z a4 g⊢;have U:(H.del br) br=none:=by simp[Heap.del]
 have tb: ∀{Hx:Heap} {r':List UInt8} {bd:Bool},RdS Bs Hx br r' bd→Tabs Hx:=fun s=>hT.rd hb (s.le g U);have a5:B (⟨#[63]⟩:ByteArray)= [63]:=rfl;have a6:B (⟨#[33]⟩:ByteArray)= [33]:=rfl;have a9:B (⟨#[38,40]⟩:ByteArray)= [38,40]:=rfl;have M:B (⟨#[124,40]⟩:ByteArray)= [124,40]:=rfl;have c1:(⟨#[63]⟩:ByteArray).size=1:=rfl;have c2:(⟨#[33]⟩:ByteArray).size=1:=rfl;have c3:(⟨#[38,40]⟩:ByteArray).size=2:=rfl;have b0:(⟨#[124,40]⟩:ByteArray).size=2:=rfl;have c4: ¬60<dp:=by omega
 have O:=fun(r:List UInt8) (_:r.length≤20000)=>B4d e r;rw[G2]at h;repeat' (first|with_reducible apply C9p|simp only[go_sem,seval,z,c4])
 refine A22 br ⟨#[63]⟩ r false Bs z fun H1 G=>?_;rw[a5,c1]at G;rw[a5];cases p1:pre [63] r with
 |true=>
  rw[p1]at h G;simp only[if_true]at h G;repeat' simp only[go_sem,seval]
  refine B3J br (r.drop 1) false (by rw[D0N];omega) (hx 1) H1 G.here fun H2 p=>?_;have b1:=G.trans p;have i:=b1.keep e4 d.symm;rw[hZ]at i;repeat' simp only[go_sem,seval,i]
  exact E3 (A4F 3 0 0 false _) (D1H (A1V b1 g y d _) (h _ (RdS.set _ _ _ _)))
 |false=>
  rw[p1]at h G;simp only[C95,if_false]at h G;have hs:=G.same z;subst hs;clear G;repeat' simp only[go_sem,seval]
  refine A22 br ⟨#[33]⟩ r false _ z fun H2 p=>?_;rw[a6,c2]at p;rw[a6];cases p2:pre [33] r with
  |true=>
   rw[p2]at h p;simp only[if_true]at h p;repeat' simp only[go_sem,seval,T]
   refine hF _ br (r.drop 1) (by rw[D0N];omega) (A2V hx 1) H2 (tb p) p.here fun H3 q=>?_;have b2:=p.trans q;have i:=b2.keep e4 d.symm;rw[hZ]at i;repeat' (first|simp only[go_sem,seval,i]|simp(disch:=first|omega|grind) only[B9]|intro j)
   rename_i x;have V:=j;clear j;refine A8U (ob:=some x) (ks:=[(G2 e (r.drop 1)).1]) rfl (?_:(Heap.set _ m _) x=_) (D1H (B9t b2 g y d V _ _) (h _ (RdS.set _ _ _ _)));have c5:x≠m:=fun e=>by rw[e,i]at V;cases V
   rw[A3 _ c5];exact A2 _ _
  |false=>
   rw[p2]at h p;simp only[C95,if_false]at h p;have hs:=p.same z;subst hs;clear p;repeat' simp only[go_sem,seval]
   refine A22 br ⟨#[38,40]⟩ r false _ z fun H3 q=>?_;rw[a9,c3]at q;rw[a9];cases p3:pre [38,40] r with
   |true=>
    rw[p3]at h q;simp only[if_true]at h q;repeat' simp only[go_sem,seval,T]
    refine B7P e (by omega) hF br (r.drop 2) (by rw[D0N];omega) (A2V hx 2) H3 (tb q) q.here O fun H4 u=>?_;have b3:=q.trans u;have i:=b3.keep e4 d.symm;rw[hZ]at i;repeat' simp only[go_sem,seval,i]
    exact E3 (B1b 5 0 0 false D1 _) (D1H (A1V b3 g y d _) (h _ (RdS.set _ _ _ _)))
   |false=>
    rw[p3]at h q;simp only[C95,if_false]at h q;have hs:=q.same z;subst hs;clear q;repeat' simp only[go_sem,seval]
    refine A22 br ⟨#[124,40]⟩ r false _ z fun H4 u=>?_;rw[M,b0]at u;rw[M];cases p4:pre [124,40] r with
    |true=>
     rw[p4]at h u;simp only[if_true]at h u;repeat' simp only[go_sem,seval,T]
     refine B7P e (by omega) hF br (r.drop 2) (by rw[D0N];omega) (A2V hx 2) H4 (tb u) u.here O fun H5 C=>?_;have b7:=u.trans C;have i:=b7.keep e4 d.symm;rw[hZ]at i;repeat' simp only[go_sem,seval,i]
     exact E3 (B1b 6 0 0 false D1 _) (D1H (A1V b7 g y d _) (h _ (RdS.set _ _ _ _)))
    |false=>
     rw[p4]at h u;simp only[C95,if_false]at h u;have hs:=u.same z;subst hs;clear u;repeat' simp only[go_sem,seval]
     have b8:=hx 0;rw[List.drop_zero]at b8;refine B3J br r false (by omega) b8 _ z fun H5 C=>?_;have i:=C.keep e4 d.symm;rw[hZ]at i;have c9:=A6O r;unfold A6k at h;by_cases w1:L3 r=A0v
     ·rw[if_pos w1]at h;have I:L3 r= [116,114,117,101]:=w1;repeat' simp only[go_sem,seval,i,A8p,I]
      exact E3 (A4F 1 1 0 false D1) (D1H (A1V C g y d _) (h _ (RdS.set _ _ _ _)))
     ·rw[if_neg w1]at h;have I: ¬L3 r= [116,114,117,101]:=w1;by_cases w2:L3 r=flsB
      ·rw[if_pos w2]at h;have J:L3 r= [102,97,108,115,101]:=w2;have c6: ¬([102,97,108,115,101]:List UInt8)= [116,114,117,101]:=by decide
       repeat' simp only[go_sem,seval,i,A8p,J,c6]
       exact E3 (A4F 1 0 0 false D1) (D1H (A1V C g y d _) (h _ (RdS.set _ _ _ _)))
      ·rw[if_neg w2]at h;have J: ¬L3 r= [102,97,108,115,101]:=w2;obtain⟨⟨L,er⟩,b9⟩: ∃x,x=M5 (L3 r):=⟨_,rfl⟩
       have pc:=fun(Q:D→Heap→Prop) (H:Heap) (hT:Tabs H)=>B9Q (Q:=Q) (S (L3 r)) (by rw[O1];omega) H hT;rw[l9,←b9]at pc;rw[←b9]at h;simp only at h pc;have r5:=C.here;by_cases e0:er=0
       ·have W:decide (er≠0)=false:=by simp[e0]
        rw[W]at h;repeat' (first|simp only[go_sem,seval,i,A8p,I,J,r5,e0]|simp(disch:=first|omega|grind) only[B9]|intro j|with_reducible refine pc _ _ (tb C) ?_)
        rename_i b6;have X:=j;clear j;have Y:m≠b6:=fun e=>by rw[←e,i]at X;cases X
        have s6:=RdS.set (H5.set b6 (.box [.sl 2 (Rw Q7 L.t),.int .i64 L.k,.bool L.e])) br (P7 r) false;have a0:=s6.keep (b:=m) (by rw[A3 _ Y];exact i) d.symm;have A:=(C.le g U).trans (A0 (o:=.box [.sl 2 (Rw Q7 L.t),.int .i64 L.k,.bool L.e]) X);repeat' (first|simp only[go_sem,seval,a0]|with_reducible refine A4L L _ ?_)
        exact D1H (A1V s6 A y d _) (h _ (RdS.set _ _ _ _))
       ·have W:decide (er≠0)=true:=by simp[e0]
        rw[W]at h;repeat' (first|simp only[go_sem,seval,i,A8p,I,J,r5,e0]|simp(disch:=first|omega|grind) only[B9]|intro j|with_reducible refine pc _ _ (tb C) ?_)
        rename_i b6;have X:=j;clear j;have Y:m≠b6:=fun e=>by rw[←e,i]at X;cases X
        have s6:=RdS.set (H5.set b6 (.box [.sl 2 (Rw Q7 L.t),.int .i64 L.k,.bool L.e])) br (P7 r) true;have a0:=s6.keep (b:=m) (by rw[A3 _ Y];exact i) d.symm;have A:=(C.le g U).trans (A0 (o:=.box [.sl 2 (Rw Q7 L.t),.int .i64 L.k,.bool L.e]) X);repeat' (first|simp only[go_sem,seval,a0]|with_reducible refine A4L L _ ?_)
        exact D1H (A1V s6 A y d _) (h _ (RdS.set _ _ _ _))
theorem C3a: ∀e,e≤60→A7d e:=by
 intro e
 induction e with
 |zero=>intro _;exact C3Y
 |succ e d=>intro he;exact C3Z e he (d (by omega))
theorem A3h(n:Int):NilR (.tuple [.agg [.int .i64 0,.int .i64 0,.nilsl,.int .i64 0,.bool false,.str ⟨#[]⟩,.nilsl],.int .i64 n]) (.tuple [.agg (C0 T1),.int .i64 n]):=C2m (A4F 0 0 0 false D1)
theorem B0p{Q}(s:ByteArray)(hx:s.size≤20000→∀k,A6L ((B s).drop k))(H:Heap)(p:Tabs H)(h:Q (.tuple [.agg (C0 (A20 (B s)).1),.int .i64 (A20 (B s)).2]) H):D7 29 [.str s] H Q:=by
 refine A8 [] A5 Tryz.func29 rfl ?_;simp only[go_sem,seval,Tryz.results29];have a0:=Y7 s;intro o q;obtain⟨Z,r⟩: ∃Z:List D,Z= [.int .i64 0,.int .i64 0,.nilsl,.int .i64 0,.bool false,.str ⟨#[]⟩,.nilsl]:=⟨_,rfl⟩
 rw[←r];have e2:(H.set o (.box Z)) o=some (.box Z):=A2 _ _;have i:H.Le (H.set o (.box Z)):=A0 q;generalize H.set o (.box Z)=Bs at e2 i⊢;have a4:=p.le i;unfold A20 at h;by_cases hl:(B s).length > 20000
 ·rw[if_pos hl]at h;have T:(20000:Int)<s.size:=by omega
  subst r;repeat' (first|with_reducible apply C9p|simp only[go_sem,seval,T,e2])
  exact E3 (A3h 3) (D1H (by first|exact i|exact G4 i q) h)
 ·rw[if_neg hl]at h;have T: ¬(20000:Int)<s.size:=by omega
  have U:=C3a 60 (by omega);unfold A7d at U;rw[show ((61:Int)-(60:Nat))=1 by omega]at U;have hsz:=(B0i 60 (B s) (by omega))
  repeat' (first|with_reducible apply C9p|simp only[go_sem,seval,T]|intro j)
  rename_i br;have hr:=j;clear j;have Y:(Bs.set br (.box [.str s,.bool false])) br=some (.box [.str (S (B s)),.bool false]):=by rw[A2,S_B]
  have nr:o≠br:=fun e=>by rw[←e,e2]at hr;cases hr
  have m:H.Le (Bs.set br (.box [.str s,.bool false])):=i.trans (A0 hr);have C:(Bs.set br (.box [.str s,.bool false])) o=some (.box Z):=by rw[A3 _ nr];exact e2
  have V:H br=none:=i.none hr;generalize Bs.set br (.box [.str s,.bool false])=Cs at Y C m⊢;refine U _ br (B s) (by omega) (hx (by omega)) _ (p.le m) Y fun G I=>?_;obtain⟨⟨f1,r1,bad⟩,W⟩: ∃x,x=G2 60 (B s):=⟨_,rfl⟩
  rw[←W]at h hsz I⊢;simp only at h hsz I⊢;have J:=I.keep C nr;have L:=I.le m V;have g:=I.here;repeat' (first|simp only[go_sem,seval]|simp(disch:=first|omega|grind) only[B9]|intro j)
  rename_i b5;have h5:=j;clear j;have n5:br≠b5∧o≠b5:=⟨fun e=>(by rw[←e,g]at h5;cases h5),fun e=>(by rw[←e,J]at h5;cases h5)⟩
  have M:(G.set b5 (.box (C0 f1))) b5=some (.box (C0 f1)):=A2 _ _;have u:(G.set b5 (.box (C0 f1))) br=some (.box [.str (S r1),.bool bad]):=by rw[A3 _ n5.1];exact g
  have A:(G.set b5 (.box (C0 f1))) o=some (.box Z):=by rw[A3 _ n5.2];exact J
  have d:H.Le (G.set b5 (.box (C0 f1))):=L.trans (A0 h5);generalize G.set b5 (.box (C0 f1))=Ds at M u A d⊢;cases bad with
  |true=>
   simp only[true_or,if_true]at h;subst r;repeat' simp only[go_sem,seval,g,u,A]
   exact E3 (A3h 30) (D1H (by first|exact d|exact G4 d q) h)
  |false=>
   by_cases y:r1= []
   ·rw[y]at h u g;simp only[C95,ne_eq,not_true,or_self,if_false]at h;unfold okF at h;have fo:=hsz.2.fit;have vo:VOk f1:=.inl (by have:=hsz.2.wt;omega);have z:=fun(Q:D→Heap→Prop) (H:Heap) (p:Tabs H)=>A8k (Q:=Q) f1 fo vo H p;have X:S []=⟨#[]⟩:=rfl;cases hv:E5 f1 with
    |false=>
     rw[hv]at h z;simp only[C95,false_and,if_false]at h z;subst r;repeat' (first|simp only[go_sem,seval,g,u,A,M,X]|with_reducible refine z _ _ (p.le d) ?_)
     exact E3 (A3h 30) (D1H (by first|exact d|exact G4 d q) h)
    |true=>
     rw[hv]at h z;simp only[true_and,if_true]at h z;by_cases O:D8 f1=B s
     ·rw[if_pos O]at h;subst r;repeat' (first|simp only[go_sem,seval,g,u,A,M,X,O]|with_reducible refine z _ _ (p.le d) ?_)
      exact D1H (G4 d q) h
     ·rw[if_neg O]at h;subst r;repeat' (first|simp only[go_sem,seval,g,u,A,M,X,O]|with_reducible refine z _ _ (p.le d) ?_)
      exact E3 (A3h 30) (D1H (by first|exact d|exact G4 d q) h)
   ·rw[if_pos (.inr y)]at h;subst r;repeat' simp only[go_sem,seval,g,u,A,y]
    exact E3 (A3h 30) (D1H (by first|exact d|exact G4 d q) h)
end Go.Proofs.YtibphjonmikciaaGreatDoor
namespace Go.Fo
open Go Go.Av Go.Lexs Go.Lin
theorem B7Y(l:List Fm)(p:Fm→Bool):(l.any fun f=> !p f)= !l.all p:=by
 induction l with
 |nil=>rfl
 |cons x l d=>rw[D0u,D0s,d,Bool.not_and]
theorem B9u{Q:D→Heap→Prop}{H:Heap}{n:Nat}{ob:Option Nat}{o m k x:Int}{e:Bool}{s:ByteArray}{ks:List Fm}(hn:n=ks.length)(ho:OutAt H 7 (Rw C0 ks) ob)(h:Fin Q (.tuple [.agg (C0 (.mk o m ⟨[],k,e⟩ s ks)),.int .i64 x]) (K7 H ob)):
  Fin Q (.tuple [.agg [.int .i64 o,.int .i64 m,.nilsl,.int .i64 k,.bool e,.str s,J1 7 n ob],.int .i64 x]) H:=by
 rw[d9]at h;cases ob with
 |none=>
  have d:Rw C0 ks= []:=ho;refine E3 ?_ h;rw[d];exact C2m (B1a (.nil 2) (.nil 7))
 |some b=>
  have hb:H b=some (.vec 7 (Rw C0 ks)):=ho;subst hn;refine A4n (cs':=[.int .i64 o,.int .i64 m,.sl 2 [],.int .i64 k,.bool e,.str s,.sl 7 (Rw C0 ks)]) hb rfl (fz7 (.nil 2) ?_) h;show Fz b 7 (Rw C0 ks) (.vec b 7 0 ks.length) _;have:=Fz.all (b:=b) (sz:=7) (es:=Rw C0 ks);rwa [D6]at this
end Go.Fo
namespace Go.Proofs.YtibphjonmikciaaGreatDoor
open Go Go.Av Go.Lexs Go.Lin Go.Fo
attribute [local irreducible] ACalls W4
theorem B9v{Q}(f:Fm)(g:FmFit f)(i:VOk f)(H:Heap)(h:Q (.bool (!E5 f)) H):D7 113 [.agg (C0 f)] H Q:=by
 refine A8 [] A5 Tryz.func113 rfl ?_;simp only[go_sem,seval,Tryz.results113];intro e h1;have e1:(H.set e (.box (C0 f))) e=some (.box (C0 f)):=A2 _ _;have d:H.Le (H.set e (.box (C0 f))):=A0 h1;generalize H.set e (.box (C0 f))=Bs at e1 d⊢;repeat' (first|simp only[go_sem,seval,e1]|with_reducible refine Q5 f g i _ ?_)
 exact D1H d h
theorem B7Z{Q}(o:Int)(ho:o=5∨o=6)(l:List Fm)(fl: ∀f∈l,FmFit f)(hlen:l.length≤1466015503658)(vl: ∀f∈l,VOk f)(hw:l.all E5=true→K9.wtL l≤900000)(H:Heap)(h:Q (.tuple [.agg (C0 (A10 o l).1),.int .i64 (A10 o l).2]) H):D7 67 [.int .i64 o,.sl 7 (Rw C0 l)] H Q:=by
 refine A8 [(9,.par)] A5 Tryz.func67 rfl ?_;simp only[go_sem,seval,Tryz.results67];intro y g4;obtain⟨Z,U⟩: ∃Z:List D,Z= [.int .i64 0,.int .i64 0,.nilsl,.int .i64 0,.bool false,.str ⟨#[]⟩,.nilsl]:=⟨_,rfl⟩
 rw[←U];have M:(H.set y (.box Z)) y=some (.box Z):=A2 _ _;have z:H.Le (H.set y (.box Z)):=A0 g4;generalize H.set y (.box Z)=Bs at M z⊢;have V: ∀x,H.Le (Bs.set y x):=fun x=>G4 z g4;have T:=fun(Q:D→Heap→Prop) (H:Heap)=>A8a (Q:=Q) (fun f=> !E5 f) l (by omega) 113 [] [] H (fun k hk _ Q hq=>B9v l[k] (fl _ (C93 hk)) (vl _ (C93 hk)) H hq);rw[B7Y]at T;unfold A10 at h;cases hv:l.all E5 with
 |false=>
  rw[hv]at h T;simp only[C95,if_false]at h;rw[U]at M;repeat' (first|simp only[go_sem,seval,M]|with_reducible refine T _ _ ?_)
  exact E3 (A6J 2) (D1H (V _) h)
 |true=>
  rw[hv]at h T;simp only[if_true]at h;have hw:=hw hv;have nc:=fun(Q:D→Heap→Prop) (H:Heap)=>A8d (Q:=Q) l fl hlen H;have W:=fun(Q:D→Heap→Prop) (H:Heap)=>B10 (Q:=Q) (I9 (D4.intsL l)) (I9 (C5.boolsL l)) H;rw[A1N (l':=D4.intsL l) (m':=C5.boolsL l) (fun x=>F9 _ _) (fun x=>F9 _ _)]at W;cases hm:meetL (D4.intsL l) (C5.boolsL l)with
  |true=>
   rw[hm]at h W;simp only[if_true]at h;rw[U]at M;repeat' (first|simp only[go_sem,seval,M]|with_reducible refine T _ _ ?_|with_reducible refine nc _ _ ?_|with_reducible refine W _ _ ?_)
   exact E3 (A6J 15) (D1H (V _) h)
  |false=>
   rw[hm]at h W;simp only[C95,if_false]at h;repeat' (first|simp only[go_sem,seval]|(intro g;try simp only[A6]at g)|with_reducible refine T _ _ ?_|with_reducible refine nc _ _ ?_|with_reducible refine W _ _ ?_)
   rename_i r;have h6:=g;clear g;have X:y≠r:=fun e=>by rw[←e,M]at h6;cases h6
   have c6:(Bs.set r (.box [.int .i64 o,.int .i64 0,.nilsl,.int .i64 0,.bool false,.str ⟨#[]⟩,.nilsl])) r=some (.box [.int .i64 o,.int .i64 0,.nilsl,.int .i64 0,.bool false,.str ⟨#[]⟩,.nilsl]):=A2 _ _;have c4:(Bs.set r (.box [.int .i64 o,.int .i64 0,.nilsl,.int .i64 0,.bool false,.str ⟨#[]⟩,.nilsl])) y=some (.box Z):=by rw[A3 _ X];exact M
   have u:H.Le (Bs.set r (.box [.int .i64 o,.int .i64 0,.nilsl,.int .i64 0,.bool false,.str ⟨#[]⟩,.nilsl])):=z.trans (A0 h6);have Y:H r=none:=z.none h6;generalize Bs.set r (.box [.int .i64 o,.int .i64 0,.nilsl,.int .i64 0,.bool false,.str ⟨#[]⟩,.nilsl])=Cs at c6 c4 u⊢;refine C9 [4,6,20,21] (fun(p:Nat×Option Nat×Heap)=>[(22,.int .i64 p.1)]) (fun(p:Nat×Option Nat×Heap)=>p.2.2) (fun(p:Nat×Option Nat×Heap)=>p.1≤l.length∧AH 7 Cs r (fun x=>[.int .i64 o,.int .i64 0,.nilsl,.int .i64 0,.bool false,.str ⟨#[]⟩,x]) (Rw C0 (l.take p.1)) p.1 p.2.1 p.2.2) (fun(p:Nat×Option Nat×Heap)=>l.length-p.1) ((0,none,Cs)) (⟨D0A _,A16 c6⟩) (by(try simp only[go_sem,seval])<;>(try simp(disch:=omega) [A4])) (by first|exact D1G _|exact A0 (by assumption)|exact B2 (by assumption)|simp only[Heap.Le,Heap.set,Heap.del]at* <;>grind) ?_;rintro Ec rfl ⟨i,ob,Hp⟩ ⟨hi,A⟩;simp only at hi A;by_cases C:i<l.length
   ·have G:decide ((i:Int)<l.length)=true:=C9r (by omega);have b0:(i:Int)<l.length:=by omega
    have b1:=C93 C;repeat' (first|with_reducible apply C9p|simp only[go_sem,seval,G,b0,A9 _ _ C,C1 _ _ C]|(intro g;try simp only[A6]at g)|omega)
    rename_i L;have h8:=g;clear g;obtain⟨d1,d7,dO,dN⟩:=A.at7 h8 (.box (C0 l[i]));refine F5 (fun i'=>.agg (C0 l[i])) [r,L] ?_;have m1:r∈[r,L]:=by simp
    have m7:L∈[r,L]:=by simp
    repeat' (first|simp only[go_sem,seval,d1,d7,m1,m7]|(intro g;try simp only[A6]at g)|with_reducible refine R0 (fun H' Q hro hq=>B3D l[i] (fl _ b1) H' hq) ?_)
    rename_i x;have hx:=g;clear g;obtain⟨a0,b2⟩:=hx;have I:(Hp.set L (.box (C0 l[i]))) x=none:=by rw[A3 _ a0];exact b2
    obtain⟨O,a4⟩:=A5A dO I (.vec 7 [C0 l[i]]);have b3:x∉[r,L]:=by
     simp only[D0H,D0I,or_false,not_or];exact⟨fun e=>(by rw[e,d1]at I;cases I),a0⟩
    have b7: ∀c,ob=some c→c∉[r,L]:=fun c e=>by
     simp only[D0H,D0I,or_false,not_or];exact⟨(A.fresh c e).2,dN c e⟩
    refine B0D 28 96 (n:=i) (m:=1) (bx:=x) (ob:=ob) (es:=Rw C0 (l.take i)) (xs:=[C0 l[i]]) (by simp only[go_sem,seval]) (by decide) (by simp only[go_sem,seval]) (by simp only[go_sem,seval]) (by simp only[go_sem,seval]) (by simp only[go_sem,seval]) (A2 _ _) rfl (by simp) O (Z0 _ _ (by omega)).symm b3 a4 b7 (by simp only[C9u,C9w];omega) (by simp only[C9u,C9w];omega) fun b' a5=>?_;rw[E9 I]at a5⊢;obtain⟨c1,b9,A'⟩:=A.step h8 _ a5 (C0 l[i]);revert A';generalize c0:((K7 (Hp.set L (.box (C0 l[i]))) ob).set b' (.vec 7 (Rw C0 (l.take i)++[C0 l[i]]))).set r (.box [.int .i64 o,.int .i64 0,.nilsl,.int .i64 0,.bool false,.str ⟨#[]⟩,.vec b' 7 0 (i+1)])=Hf;intro A';repeat' (first|simp only[go_sem,seval,b9,m1]|simp(disch:=omega) only[A4,A9,D0])
    exact C2 (i+1,some b',Hf) ⟨by simp only[];omega,by simp only[];rw[Q3 l i C];exact A'⟩ (by simp only[];omega) (by(try simp only[go_sem,seval])<;>(try simp(disch:=omega) [A4])) (by rw[←c0];exact D1G _)
   ·have G:decide ((i:Int)<l.length)=false:=C9s (by omega);have a6:i=l.length:=by omega
    have J:=A.keep y _ X c4;rw[C94 (by omega)]at A;have A1:=A.box;have o1:=A59 7 i ob;have fo:FmFit (.mk o 0 nilL D1 l):=R9 (by rcases ho with rfl|rfl<;>simp[W3]) hlen fl;have vo:VOk (.mk o 0 nilL D1 l):=.inl (by rw[L2];simp only[Fm.l,Fm.ks,nilL,C9w];omega);have vv: ∀Q:D→Heap→Prop,Q (.bool (E5 (.mk o 0 nilL D1 l))) Hp→D7 18 [.agg [.int .i64 o,.int .i64 0,.nilsl,.int .i64 0,.bool false,.str ⟨#[]⟩,J1 7 i ob]] Hp Q:=fun Q hq=>
     A3j (args':=[.agg (C0 (.mk o 0 nilL D1 l))]) rfl (fun j d d' h1 h2=>by
      match j with
      |0=>cases h1;cases h2;exact B86 a6 A.out
      |j+1=>cases h1) (Q5 _ fo vo _ ⟨rfl,hq⟩)
    cases a9:E5 (.mk o 0 nilL D1 l)with
    |false=>
     rw[a9]at h vv;simp only[C95,if_false]at h;rw[U]at J;repeat' (first|simp only[go_sem,seval,G,A1,J,o1]|with_reducible refine vv _ ?_)
     exact E3 (A6J 3) (D1H (fun k q hk=>by
      have k4:k≠y:=fun e=>by rw[e,g4]at hk;cases hk
      rw[A3 _ k4];have k6:k≠r:=fun e=>by rw[e,Y]at hk;cases hk
      exact A.keep k q k6 (u _ _ hk)) h)
    |true=>
     rw[a9]at h vv;simp only[if_true]at h;rw[U]at J;repeat' (first|with_reducible apply C9p|simp only[go_sem,seval,G,A1,J,o1]|with_reducible refine vv _ ?_)
     exact B9u a6 (A.out2 c4 _) (D1H (A.le2 u Y g4 _) h)
theorem C6V{Q}(l:List Fm)(d: ∀f∈l,FmFit f)(hlen:l.length≤1466015503658)(e: ∀f∈l,VOk f)(hw:l.all E5=true→K9.wtL l≤900000)(H:Heap)(h:Q (.tuple [.agg (C0 (A10 5 l).1),.int .i64 (A10 5 l).2]) H):D7 24 [.sl 7 (Rw C0 l)] H Q:=by
 refine A8 [] A5 Tryz.func24 rfl ?_;simp only[go_sem,seval,Tryz.results24];repeat' (first|simp only[go_sem,seval]|intro g|with_reducible refine B7Z 5 (.inl rfl) l d hlen e hw _ ?_)
 exact D1H (A0 (by assumption)) h
theorem C8g{Q}(l:List Fm)(d: ∀f∈l,FmFit f)(hlen:l.length≤1466015503658)(e: ∀f∈l,VOk f)(hw:l.all E5=true→K9.wtL l≤900000)(H:Heap)(h:Q (.tuple [.agg (C0 (A10 6 l).1),.int .i64 (A10 6 l).2]) H):D7 26 [.sl 7 (Rw C0 l)] H Q:=by
 refine A8 [] A5 Tryz.func26 rfl ?_;simp only[go_sem,seval,Tryz.results26];repeat' (first|simp only[go_sem,seval]|intro g|with_reducible refine B7Z 6 (.inr rfl) l d hlen e hw _ ?_)
 exact D1H (A0 (by assumption)) h
theorem B7a{Q}(vs:List VlV)(k:Fm)(b:Nat)(H:Heap)(hb:H b=some (.box [.sl 2 (Rw vlC vs)]))(j: ∀(Q:D→Heap→Prop) (H:Heap),Q (.bool (K5 k vs)) H→D7 63 [.agg (C0 k),.sl 2 (Rw vlC vs)] H Q)(h:Q (.bool (!K5 k vs)) H):D7 109 [.agg (C0 k),.box b 0] H Q:=by
 refine A8 [] A5 Tryz.func109 rfl ?_;simp only[go_sem,seval,Tryz.results109];intro d i;have n2:b≠d:=fun e=>by rw[←e,hb]at i;cases i
 have e1:(H.set d (.box (C0 k))) b=some (.box [.sl 2 (Rw vlC vs)]):=by rw[A3 _ n2];exact hb
 have e2:(H.set d (.box (C0 k))) d=some (.box (C0 k)):=A2 _ _;have g:H.Le (H.set d (.box (C0 k))):=A0 i;generalize H.set d (.box (C0 k))=Bs at e1 e2 g⊢;repeat' (first|simp only[go_sem,seval,e1,e2]|with_reducible refine j _ _ ?_)
 exact D1H g h
theorem B7b{Q}(vs:List VlV)(k:Fm)(b:Nat)(H:Heap)(hb:H b=some (.box [.sl 2 (Rw vlC vs)]))(j: ∀(Q:D→Heap→Prop) (H:Heap),Q (.bool (K5 k vs)) H→D7 63 [.agg (C0 k),.sl 2 (Rw vlC vs)] H Q)(h:Q (.bool (K5 k vs)) H):D7 110 [.agg (C0 k),.box b 0] H Q:=by
 refine A8 [] A5 Tryz.func110 rfl ?_;simp only[go_sem,seval,Tryz.results110];intro d i;have n2:b≠d:=fun e=>by rw[←e,hb]at i;cases i
 have e1:(H.set d (.box (C0 k))) b=some (.box [.sl 2 (Rw vlC vs)]):=by rw[A3 _ n2];exact hb
 have e2:(H.set d (.box (C0 k))) d=some (.box (C0 k)):=A2 _ _;have g:H.Le (H.set d (.box (C0 k))):=A0 i;generalize H.set d (.box (C0 k))=Bs at e1 e2 g⊢;repeat' (first|simp only[go_sem,seval,e1,e2]|with_reducible refine j _ _ ?_)
 exact D1H g h
theorem B7c(l:List Fm)(p:Fm→Bool):(!l.any fun k=> !p k)=l.all p:=by
 induction l with
 |nil=>rfl
 |cons x l d=>rw[D0u,D0s,←d];cases p x<;>simp
theorem B9w(vs:List VlV)(I:A4a vs)(hv:M2 vs=true)(n:Nat): ∀{Q} (f:Fm) (hn:SizeOf.sizeOf f≤n) (r:G8 D5 f=true) (u:FmFit f) (H:Heap) (h:Q (.bool (K5 f vs)) H),D7 63 [.agg (C0 f),.sl 2 (Rw vlC vs)] H Q:=by
 induction n with
 |zero=>intro Q f hn;cases f;simp at hn
 |succ n J=>
 intro Q f hn r u H h;refine A8 [] A5 Tryz.func63 rfl ?_;simp only[go_sem,seval,Tryz.results63];have q:=u.kl;have L:=I.len;have g: ∀k∈f.ks,∀(Q:D→Heap→Prop) (H:Heap),Q (.bool (K5 k vs)) H→D7 63 [.agg (C0 k),.sl 2 (Rw vlC vs)] H Q:=fun k hk Q H hq=>J k (by have:=A0N hk;omega) (N8 r hk) (u.kid hk) H hq;intro p M j x;simp only[A6]at x;have y:p≠j:=fun e=>x.1 e.symm;have e2:((H.set p (.box (C0 f))).set j (.box [.sl 2 (Rw vlC vs)])) p=some (.box (C0 f)):=by rw[A3 _ y,A2]
 have e3:((H.set p (.box (C0 f))).set j (.box [.sl 2 (Rw vlC vs)])) j=some (.box [.sl 2 (Rw vlC vs)]):=A2 _ _;have i:H.Le ((H.set p (.box (C0 f))).set j (.box [.sl 2 (Rw vlC vs)])):=(A0 M).trans (A0 (by simp only[A6];exact x));generalize (H.set p (.box (C0 f))).set j (.box [.sl 2 (Rw vlC vs)])=Bs at e2 e3 i⊢;cases Q4 r with
 |con m hm=>
  rw[C3L _ rfl]at h;simp only[Fm.n]at h;repeat' simp only[go_sem,seval,e2]
  exact D1H i h
 |lin l hl hp=>
  rw[C3M _ rfl]at h;simp only[Fm.l]at h;obtain⟨T,K,E⟩:=l;have C:=fun(Q:D→Heap→Prop) (H:Heap)=>B9G (Q:=Q) ⟨T,K,E⟩ hl vs hv (by omega) H;generalize (J3 K T vs).getD 0=z at h C;unfold y7 at h;repeat' (first|with_reducible apply C9p|simp only[go_sem,seval,e2,e3]|(intro A;try simp only[A6]at A)|with_reducible refine C _ _ ?_)
  all_goals (refine D1H i ?_;simp_all)
 |var s hp=>
  rw[C8d _ rfl]at h;simp only[Fm.s]at h;repeat' (first|simp only[go_sem,seval,e2,e3]|with_reducible refine B0F vs hv s (by omega) _ ?_)
  exact D1H i h
 |not k=>
  rw[C3N _ rfl rfl]at h;have O:(Rw C0 [k]).getD 0 []=C0 k:=rfl;have U:=g k (C90 ..);repeat' (first|with_reducible apply C9p|simp only[go_sem,seval,e2,e3,O]|with_reducible refine U _ _ ?_|omega)
  all_goals first
   |exact D1H i h
   |decide
   |omega
 |and ks=>
  rw[B7F _ rfl]at h;simp only[Fm.ks]at h g q;have V:=A8a (Q:=fun d G=>d= .bool (ks.any fun k=> !K5 k vs)∧G=Bs) (fun k=> !K5 k vs) ks (by omega) 109 [] [.box j 0] Bs (fun k hk _ Q hq=>B7a vs ks[k] j Bs e3 (g _ (C93 hk)) hq) ⟨rfl,rfl⟩;have o: ∀(Q:D→Heap→Prop),Q (.bool (ks.any fun k=> !K5 k vs)) Bs→D7 108 [.sl 7 (Rw C0 ks),.fn (.func 109) [] [.box j 0]] Bs Q:=fun Q hq=>V.mono fun d G ⟨h1,W⟩=>by rw[h1,W];exact hq
  rw[←B7c]at h;repeat' (first|simp only[go_sem,seval,e2,e3]|with_reducible refine o _ ?_)
  exact D1H i h
 |or ks=>
  rw[B4U _ rfl]at h;simp only[Fm.ks]at h g q;have o:=fun(Q:D→Heap→Prop)=>A8a (Q:=Q) (fun k=>K5 k vs) ks (by omega) 110 [] [.box j 0] Bs (fun k hk _ Q hq=>B7b vs ks[k] j Bs e3 (g _ (C93 hk)) hq);repeat' (first|simp only[go_sem,seval,e2,e3]|with_reducible refine o _ ?_)
  exact D1H i h
theorem B9x{Q}(vs:List VlV)(d:A4a vs)(hv:M2 vs=true)(f:Fm)(e:G8 D5 f=true)(g:FmFit f)(H:Heap)(h:Q (.bool (K5 f vs)) H):D7 63 [.agg (C0 f),.sl 2 (Rw vlC vs)] H Q:=B9w vs d hv _ f (C99 _) e g H h
theorem C3b{Q}(f:Fm)(fa:FmFit f)(vo:VOk f)(vs:List VlV)(fv:A4a vs)(H:Heap)(h:Q (.tuple [.bool (atF f vs).1,.int .i64 (atF f vs).2]) H):D7 22 [.agg (C0 f),.sl 2 (Rw vlC vs)] H Q:=by
 refine A8 [] A5 Tryz.func22 rfl ?_;simp only[go_sem,seval,Tryz.results22];have c8:=fv.len;intro O g2;have e2:(H.set O (.box (C0 f))) O=some (.box (C0 f)):=A2 _ _;have J:H.Le (H.set O (.box (C0 f))):=A0 g2;generalize H.set O (.box (C0 f))=Bs at e2 J⊢;have W:=fun(Q:D→Heap→Prop) (H:Heap)=>Q5 (Q:=Q) f fa vo H;have wc:=fun(Q:D→Heap→Prop) (H:Heap)=>B5u (Q:=Q) vs fv H;unfold atF at h;cases hf:E5 f with
 |false=>
  rw[hf]at h W;simp only[C95,false_and,if_false]at h;repeat' (first|simp only[go_sem,seval,e2]|with_reducible refine W _ _ ?_)
  exact D1H J h
 |true=>
  cases hv:M2 vs with
  |false=>
   rw[hf]at h W;rw[hv]at h wc;simp only[C95,and_false,if_false]at h;repeat' (first|simp only[go_sem,seval,e2]|with_reducible refine W _ _ ?_|with_reducible refine wc _ _ ?_)
   exact D1H J h
  |true=>
   rw[hf]at h W;rw[hv]at h wc;simp only[and_self,if_true]at h;have b3: ∀m,(D.fm m).cells= [D.fm m]:=fun _=>rfl;repeat' (first|simp only[go_sem,seval,e2,b3]|intro o|with_reducible refine W _ _ ?_|with_reducible refine wc _ _ ?_|with_reducible refine A3d (by assumption) f fa rfl ?_)
   rename_i y;have T:=o;clear o;have u:H.Le (Bs.set y (.vec 1 [[.fm (C7 tt (I9 (D4 f)))],[.fm (C7 tt (I9 (C5 f)))]])):=J.trans (A0 T);have n2:O≠y:=fun e=>by rw[←e,e2]at T;cases T
   have c2:(Bs.set y (.vec 1 [[.fm (C7 tt (I9 (D4 f)))],[.fm (C7 tt (I9 (C5 f)))]])) O=some (.box (C0 f)):=by rw[A3 _ n2];exact e2
   have a0:(Bs.set y (.vec 1 [[.fm (C7 tt (I9 (D4 f)))],[.fm (C7 tt (I9 (C5 f)))]])) y=some (.vec 1 [[.fm (C7 tt (I9 (D4 f)))],[.fm (C7 tt (I9 (C5 f)))]]):=A2 _ _;generalize Bs.set y (.vec 1 [[.fm (C7 tt (I9 (D4 f)))],[.fm (C7 tt (I9 (C5 f)))]])=Cs at c2 a0 u⊢;refine C9 [1,2,7,32,33] (fun(j:Nat)=>[(34,.int .i64 j)]) (fun(j:Nat)=>Cs) (fun(j:Nat)=>j≤2∧(0<j→∀s∈D4 f,(L4 vs s).isSome=true)∧(1<j→∀s∈C5 f,(L4 vs s).isSome=true)) (fun(j:Nat)=>2-j) (0) (⟨D0A _,fun h=>absurd h (by decide),fun h=>absurd h (by decide)⟩) (by(try simp only[go_sem,seval])<;>(try simp(disch:=omega) [A4])) (by first|exact D1G _|exact A0 (by assumption)|exact B2 (by assumption)|simp only[Heap.Le,Heap.set,Heap.del]at* <;>grind) ?_;rintro Ec rfl j ⟨hj,a4,b4⟩;by_cases b6:j<2
   ·have U:decide ((j:Int)<2)=true:=C9r (by omega);have b7:(j:Int)<2:=by omega
    obtain⟨ks,G,a5,b8,b9⟩: ∃ks:List ByteArray,([[D.fm (C7 tt (I9 (D4 f)))],[.fm (C7 tt (I9 (C5 f)))]]).getD j []= [.fm (C7 tt ks)]∧([[D.fm (C7 tt (I9 (D4 f)))],[.fm (C7 tt (I9 (C5 f)))]])[j]? =some [.fm (C7 tt ks)]∧
      ((∀s∈ks,(L4 vs s).isSome=true)→(0<j+1→∀s∈D4 f,(L4 vs s).isSome=true)∧(1<j+1→∀s∈C5 f,(L4 vs s).isSome=true))∧(∀s∈ks,(L4 vs s).isSome=false→A21 f vs=false):=by
     match j,b6 with
     |0,_=>exact⟨I9 (D4 f),rfl,rfl,fun h=>⟨fun _ s hs=>h s ((F9 _ _).2 hs),fun h=>absurd h (by decide)⟩,fun s hs hn=>by
       rw[←D1B,A0z];intro g;rw[g s (.inl ((F9 _ _).1 hs))]at hn;cases hn⟩
     |1,_=>exact⟨I9 (C5 f),rfl,rfl,fun h=>⟨fun _=>a4 (by decide),fun _ s hs=>h s ((F9 _ _).2 hs)⟩,fun s hs hn=>by
       rw[←D1B,A0z];intro g;rw[g s (.inr ((F9 _ _).1 hs))]at hn;cases hn⟩
    have r:(C7 tt ks).length=ks.length:=by simp[C7]
    repeat' (first|with_reducible apply C9p|simp only[go_sem,seval,U,b7,a0,G,a5]|intro o|omega)
    rename_i A;have a6:=o;clear o;refine C9 [1,2,7,32,33,34,39] (fun(s:List Nat)=>[]) (fun(s:List Nat)=>Cs.set A (.rng (C7 tt ks) s)) (fun(s:List Nat)=>∀(i:Nat) (d:i<ks.length),i∈s→(L4 vs ks[i]).isSome=true) (fun(s:List Nat)=>A6G ks.length s) ([]) (fun _ _ h=>absurd h D0I) (by simp only[go_sem,seval]) (by first|exact D1G _|exact A0 (by assumption)|exact B2 (by assumption)|simp only[Heap.Le,Heap.set,Heap.del]at* <;>grind) ?_;rintro c0 rfl s hs;have c1:(Cs.set A (.rng (C7 tt ks) s)) A=some (.rng (C7 tt ks) s):=A2 _ _;repeat' simp only[go_sem,seval,c1]
    refine A77 (fun i d hn=>?_) (fun I=>?_)
    ·rw[r]at d;have X:((Cs.set A (.rng (C7 tt ks) s)).set A (.rng (C7 tt ks) (s++[i]))) A=some (.rng (C7 tt ks) (s++[i])):=A2 _ _;have Y:(C7 tt ks)[i]? =some (.str ks[i],.bool true):=by simp[C7,d]
     have C:(C7 tt ks)[i]'(by rw[r];exact d)=(.str ks[i],.bool true):=by simp[C7]
     have L:=fun(Q:D→Heap→Prop) (H:Heap)=>B0F (Q:=Q) vs hv ks[i] (by omega) H;cases hg:(L4 vs ks[i]).isSome with
     |true=>
      rw[hg]at L;repeat' (first|simp only[go_sem,seval,X,Y,C,List.getLast?_concat]|with_reducible refine L _ _ ?_)
      refine C2 (s++[i]) (fun q hq hm=>?_) (A1z d hn) (by simp only[go_sem,seval]) (D1G _);rcases D0F.1 hm with z|z
      ·exact hs q hq z
      ·rw[D0G]at z;subst z;exact hg
     |false=>
      rw[hg]at L;rw[b9 _ (C93 d) hg]at h;simp only[C95,if_false]at h;repeat' (first|simp only[go_sem,seval,X,Y,C,List.getLast?_concat]|with_reducible refine L _ _ ?_)
      refine D1H ?_ h;refine u.trans ?_;exact A0 a6
    ·have c3: ∀s∈ks,(L4 vs s).isSome=true:=fun x hx=>by
      obtain⟨i,d,rfl⟩:=List.getElem_of_mem hx;exact hs i d (I i (by rw[r];exact d))
     repeat' (first|simp only[go_sem,seval]|simp(disch:=omega) only[A4,D0])
     exact C2 (j+1) ⟨by omega,b8 c3⟩ (by omega) (by(try simp only[go_sem,seval])<;>(try simp(disch:=omega) [A4])) (A0 a6)
   ·have U:decide ((j:Int)<2)=false:=C9s (by omega);have c4:A21 f vs=true:=(A0z f vs).2 fun s hs=>hs.elim (a4 (by omega) s) (b4 (by omega) s);rw[c4]at h;simp only[if_true]at h;obtain⟨ks,G⟩: ∃ks,ks=I9 (C5 f):=⟨_,rfl⟩
    have r:(C7 tt ks).length=ks.length:=by simp[C7]
    rw[←G];repeat' (first|with_reducible apply C9p|simp only[go_sem,seval,U]|intro o|omega)
    rename_i p;have M:=o;clear o;refine C9 [1,2,54] (fun(s:List Nat)=>[]) (fun(s:List Nat)=>Cs.set p (.rng (C7 tt ks) s)) (fun(s:List Nat)=>∀(i:Nat) (d:i<ks.length),i∈s→((L4 vs ks[i]).getD 0=0∨(L4 vs ks[i]).getD 0=1)) (fun(s:List Nat)=>A6G ks.length s) ([]) (fun _ _ h=>absurd h D0I) (by simp only[go_sem,seval]) (by first|exact D1G _|exact A0 (by assumption)|exact B2 (by assumption)|simp only[Heap.Le,Heap.set,Heap.del]at* <;>grind) ?_;rintro c0 rfl s hs;have c5:(Cs.set p (.rng (C7 tt ks) s)) p=some (.rng (C7 tt ks) s):=A2 _ _;have c6:O≠p:=fun e=>by rw[←e,c2]at M;cases M
    have a9:(Cs.set p (.rng (C7 tt ks) s)) O=some (.box (C0 f)):=by rw[A3 _ c6];exact c2
    repeat' simp only[go_sem,seval,c5]
    refine A77 (fun i d hn=>?_) (fun I=>?_)
    ·rw[r]at d;have X:((Cs.set p (.rng (C7 tt ks) s)).set p (.rng (C7 tt ks) (s++[i]))) p=some (.rng (C7 tt ks) (s++[i])):=A2 _ _;have Y:(C7 tt ks)[i]? =some (.str ks[i],.bool true):=by simp[C7,d]
     have C:(C7 tt ks)[i]'(by rw[r];exact d)=(.str ks[i],.bool true):=by simp[C7]
     have L:=fun(Q:D→Heap→Prop) (H:Heap)=>B0F (Q:=Q) vs hv ks[i] (by omega) H;obtain⟨v,V⟩: ∃v,v=(L4 vs ks[i]).getD 0:=⟨_,rfl⟩
     rw[←V]at L;have b0:(v=0∨v=1)→∀(j:Nat) (hj:j<ks.length),j∈s++[i]→((L4 vs ks[j]).getD 0=0∨(L4 vs ks[j]).getD 0=1):=fun b1 q hq hm=>by
      rcases D0F.1 hm with z|z
      ·exact hs q hq z
      ·rw[D0G]at z;subst z;rw[←V];exact b1
     by_cases v0:v=0
     ·repeat' (first|simp only[go_sem,seval,X,Y,C,List.getLast?_concat,v0]|with_reducible refine L _ _ ?_)
      exact C2 (s++[i]) (b0 (.inl v0)) (A1z d hn) (by simp only[go_sem,seval]) (by simp only[E6,D2,D3]at* <;>grind)
     ·by_cases v1:v=1
      ·repeat' (first|simp only[go_sem,seval,X,Y,C,List.getLast?_concat,v1]|with_reducible refine L _ _ ?_)
       exact C2 (s++[i]) (b0 (.inr v1)) (A1z d hn) (by simp only[go_sem,seval]) (by simp only[E6,D2,D3]at* <;>grind)
      ·have hb:Go.Fo.bits f vs=false:=by
        rw[←D1B,A3f];intro g;have:=g ks[i] ((F9 _ _).1 (by rw[←G];exact C93 d));rw[←V]at this;omega
       rw[hb]at h;simp only[C95,if_false]at h;repeat' (first|simp only[go_sem,seval,X,Y,C,List.getLast?_concat,v0,v1]|with_reducible refine L _ _ ?_)
       refine D1H ?_ h;refine u.trans ?_;exact A0 M
    ·have hb:Go.Fo.bits f vs=true:=(A3f f vs).2 fun x hx=>by
      have c7:x∈ks:=by rw[G];exact(F9 _ _).2 hx
      obtain⟨i,d,rfl⟩:=List.getElem_of_mem c7;exact hs i d (I i (by rw[r];exact d))
     rw[hb]at h;simp only[if_true]at h;repeat' (first|simp only[go_sem,seval,a9]|with_reducible refine B9x vs fv hv f (L5 hf) fa _ ?_)
     exact D1H (u.trans (A0 M)) h
end Go.Proofs.YtibphjonmikciaaGreatDoor
namespace Go.Fo
open Go Go.Av Go.Lexs Go.Lin
abbrev fxT:ByteArray:=⟨#[38,40,120,45,49,62,61,48,44,32,124,40,120,45,51,61,48,44,32,33,63,98,41,41]⟩
abbrev C6W:ByteArray:=⟨#[124,40,45,120,62,61,48,44,32,38,40,124,40,120,45,52,62,61,48,44,32,45,120,43,50,62,61,48,41,44,32,63,98,41,41]⟩
abbrev B9y:ByteArray:=⟨#[120,62,61,48]⟩
def fxO:Fm:=.mk 6 0 nilL D1 []
theorem B7e:S (D8 fxF)=fxT∧S (D8 fxN)=C6W:=by rw[A8g,B7J];exact⟨rfl,rfl⟩
theorem A7h:A20 (B fxT)=(fxF,0)∧A20 (B B9y)=(fxP,0):=by
 have e1:B fxT=D8 fxF:=by rw[A8g];rfl
 have e2:B B9y=D8 fxP:=by rw[B0f];rfl
 rw[e1,e2];exact⟨A6F P9.1 (by rw[A8g];decide),A6F P9.2.1 (by rw[B0f];decide)⟩
theorem B14:E5 fxP=true∧FmFit fxP∧VOk fxP:=⟨P9.2.1,(V9 _ A11.2.1).2,.inl (by have:=B0n.2.1;omega)⟩
theorem A4P:E5 fxN=true∧FmFit fxN∧VOk fxN:=⟨P9.2.2.1,(V9 _ A11.2.2.1).2,.inl (by have:=B0n.2.2.1;omega)⟩
theorem B15:E5 fxA=true∧FmFit fxA∧VOk fxA:=⟨P9.2.2.2,(V9 _ A11.2.2.2.1).2,.inl (by have:=B0n.2.2.2;omega)⟩
theorem A6T:A4a fxVals:=⟨by decide,by decide+kernel,fun x hx=>by
 have key: ∀x∈fxVals,x.n.natAbs≤10:=by decide+kernel
 have:=key x hx;unfold W3;omega⟩
theorem C6X:C0 fxO= [.int .i64 6,.int .i64 0,.sl 2 [],.int .i64 0,.bool false,.str D1,.sl 7 []]:=rfl
theorem B0q{s:ByteArray}(h:s.size≤1000)(d: ∀c∈B s,c.toNat<128):s.size≤20000→∀k,Go.Proofs.YtibphjonmikciaaGreatDoor.A6L ((B s).drop k):=fun _ k=>Go.Proofs.YtibphjonmikciaaGreatDoor.B12 (by rw[D0N,Y7];omega) fun c hc=>d c (List.mem_of_mem_drop hc)
end Go.Fo
namespace Go.Proofs.YtibphjonmikciaaGreatDoor
open Go Go.Av Go.Lexs Go.Lin Go.Fo
attribute [local irreducible] ACalls W4
theorem C6Y{Q}(H:Heap)(d:Tabs H)(h:Q (.tuple [.str fxT,.int .i64 0]) H):D7 27 [.agg (C0 fxF)] H Q:=
 A8k fxF J8.2.1 J8.2.2.1 H d (by rw[if_pos J8.1,if_pos J8.1,B7e.1];exact h)
theorem C3c{Q}(H:Heap)(d:Tabs H)(h:Q (.tuple [.str C6W,.int .i64 0]) H):D7 27 [.agg (C0 fxN)] H Q:=
 A8k fxN A4P.2.1 A4P.2.2 H d (by rw[if_pos A4P.1,if_pos A4P.1,B7e.2];exact h)
theorem C3d{Q}(H:Heap)(d:Tabs H)(h:Q (.tuple [.agg (C0 fxF),.int .i64 0]) H):D7 29 [.str fxT] H Q:=
 B0p fxT (B0q (by decide) (by decide)) H d (by rw[A7h.1];exact h)
theorem B9z{Q}(H:Heap)(d:Tabs H)(h:Q (.tuple [.agg (C0 fxP),.int .i64 0]) H):D7 29 [.str B9y] H Q:=
 B0p B9y (B0q (by decide) (by decide)) H d (by rw[A7h.2];exact h)
theorem C8h{Q}(H:Heap)(h:Q (.tuple [.bool true,.int .i64 0]) H):D7 37 [.agg (C0 fxF),.agg (C0 fxP)] H Q:=
 B9o fxF fxP J8.2.1 B14.2.1 J8.2.2.1 B14.2.2 J8.1 B14.1 A8m.1 A8m.2.1 false A4N.2.2.1 (V9 _ A11.2.2.2.2.2.2.2.1).1 H h
theorem C8i{Q}(H:Heap)(h:Q (.tuple [.agg (C0 fxN),.int .i64 0]) H):D7 16 [.agg (C0 fxF)] H Q:=
 C07 fxF J8.2.1 J8.2.2.1 H (by rw[C3O];exact h)
theorem C8j{Q}(H:Heap)(h:Q (.tuple [.bool true,.int .i64 0]) H):D7 31 [.agg (C0 fxF)] H Q:=
 B7S fxF J8.2.1 J8.2.2.1 J8.1 true A4N.1 H h
theorem C6Z{Q}(H:Heap)(h:Q (.tuple [.bool false,.int .i64 0]) H):D7 31 [.agg (C0 fxA)] H Q:=
 B7S fxA B15.2.1 B15.2.2 B15.1 false A4N.2.1 H h
theorem C8k{Q}(H:Heap)(h:Q (.tuple [.agg (C0 fxA),.int .i64 0]) H):D7 24 [.sl 7 (Rw C0 [fxF,fxN])] H Q:=
 C6V [fxF,fxN] (fun f d=>by simp only[D0H,D0I,or_false]at d;rcases d with rfl|rfl;exact J8.2.1;exact A4P.2.1) (by decide)
  (fun f d=>by simp only[D0H,D0I,or_false]at d;rcases d with rfl|rfl;exact J8.2.2.1;exact A4P.2.2) (fun _=>by have:=B0n;simp only[K9.wtL];omega) H (by rw[C3P];exact h)
theorem xOr{Q}(H:Heap)(h:Q (.tuple [.agg (C0 fxO),.int .i64 0]) H):D7 26 [.sl 7 []] H Q:=
 C8g [] (fun f d=>by cases d) (by decide) (fun f d=>by cases d) (fun _=>by simp only[K9.wtL];omega) H (by rw[C6S];exact h)
theorem xAt{Q}(H:Heap)(h:Q (.tuple [.bool true,.int .i64 0]) H):D7 22 [.agg (C0 fxF),.sl 2 (Rw vlC fxVals)] H Q:=
 C3b fxF J8.2.1 J8.2.2.1 fxVals A6T H (by rw[C6R];exact h)
theorem C6a{Q}(H:Heap)(h:Q (.tuple [.sl 1 (Rw a7 [nX]),.sl 1 (Rw a7 [nB]),.int .i64 0]) H):D7 14 [.agg (C0 fxF)] H Q:=
 C3J fxF J8.2.1 J8.2.2.1 H (by rw[if_pos J8.1,B3H.1,B3H.2];exact h)
theorem C6b{Q}(H:Heap)(h:Q (.tuple [.bool true,.int .i64 0]) H):D7 38 [.agg (C0 fxF),.agg (C0 fxF)] H Q:=
 B9p fxF J8.2.1 J8.2.2.1 J8.1 A8m.2.2.1 A8m.2.2.2 A4N.2.2.2.1 (V9 _ A11.2.2.2.2.2.2.2.2.1).1 H h
theorem C3e{Q}(H:Heap)(h:Q (.bool true) H):D7 18 [.agg (C0 fxF)] H Q:=
 Q5 fxF J8.2.1 J8.2.2.1 H (by rw[J8.1];exact h)
set_option maxHeartbeats 4000000 in
theorem A01{Q}(H:Heap)(J:Tabs H)(h:Q (.bool true) H):D7 13 [] H Q:=by
 refine A8 [(15,.par)] A5 Tryz.func13 rfl ?_;simp only[go_sem,seval,Tryz.results13];have T:=D1G H;repeat' (first|simp only[go_sem,seval]|intro e|with_reducible refine A7f _ ?_|with_reducible refine C6Y _ J ?_|with_reducible refine C3d _ J ?_)
 rename_i I;have U:=e;clear e;have d:(H.set I (.box (C0 fxF))) I=some (.box (C0 fxF)):=A2 _ _;have x:=T.trans (A0 (o:=.box (C0 fxF)) U);have V:=J.le x;generalize H.set I (.box (C0 fxF))=H1 at d x V⊢;clear U;repeat' (first|simp only[go_sem,seval,d]|simp(disch:=first|omega|grind) only[B9]|intro e|with_reducible refine B7U _ ?_|with_reducible refine B9z _ V ?_)
 rename_i b7;have L:=e;clear e;have i:(H1.set b7 (.box (C0 fxP))) b7=some (.box (C0 fxP)):=A2 _ _;have d:=(A0 (o:=.box (C0 fxP)) L) _ _ d;have y:=x.trans (A0 (o:=.box (C0 fxP)) L);have a0:=J.le y;generalize H1.set b7 (.box (C0 fxP))=H2 at d i y a0⊢;clear L;repeat' (first|simp only[go_sem,seval,d,i]|intro e|with_reducible refine C8h _ ?_|with_reducible refine C8i _ ?_)
 rename_i M;have u:=e;clear e;have g:(H2.set M (.box (C0 fxN))) M=some (.box (C0 fxN)):=A2 _ _;have d:=(A0 (o:=.box (C0 fxN)) u) _ _ d;have i:=(A0 (o:=.box (C0 fxN)) u) _ _ i;have z:=y.trans (A0 (o:=.box (C0 fxN)) u);have W:=J.le z;generalize H2.set M (.box (C0 fxN))=H3 at d i g z W⊢;clear u;repeat' (first|simp only[go_sem,seval,d,i,g]|intro e|with_reducible refine C3c _ W ?_|with_reducible refine C8j _ ?_)
 rename_i bx;have a4:=e;clear e;refine Q6 (es:=Rw C0 [fxF,fxN]) a4 rfl ?_;repeat' (first|simp only[go_sem,seval,d,i,g]|intro e|with_reducible refine C8k _ ?_)
 rename_i O;have p:=e;clear e;have j:(H3.set O (.box (C0 fxA))) O=some (.box (C0 fxA)):=A2 _ _;have d:=(A0 (o:=.box (C0 fxA)) p) _ _ d;have i:=(A0 (o:=.box (C0 fxA)) p) _ _ i;have g:=(A0 (o:=.box (C0 fxA)) p) _ _ g;have A:=z.trans (A0 (o:=.box (C0 fxA)) p);have a5:=J.le A;generalize H3.set O (.box (C0 fxA))=H4 at d i g j A a5⊢;clear p;repeat' (first|simp only[go_sem,seval,d,i,g,j]|with_reducible refine C6Z _ ?_|with_reducible refine xAt _ ?_|with_reducible refine C6a _ ?_|with_reducible refine C6b _ ?_)
 refine B0v 7 ?_;repeat' (first|simp only[go_sem,seval,d,i,g,j]|intro e|with_reducible refine xOr _ ?_)
 rename_i q;have m:=e;clear e;have r:(H4.set q (.box (C0 fxO))) q=some (.box (C0 fxO)):=A2 _ _;have d:=(A0 (o:=.box (C0 fxO)) m) _ _ d;have i:=(A0 (o:=.box (C0 fxO)) m) _ _ i;have g:=(A0 (o:=.box (C0 fxO)) m) _ _ g;have j:=(A0 (o:=.box (C0 fxO)) m) _ _ j;have C:=A.trans (A0 (o:=.box (C0 fxO)) m);have a6:=J.le C;generalize H4.set q (.box (C0 fxO))=H5 at d i g j r C a6⊢;clear m;have m3:I∈[I,q]:=by simp
 have X:q∈[I,q]:=by simp
 have t1:decide ((fxT:ByteArray)=fxT)=true:=C9r rfl;rw[show C0 fxO=_ from C6X]at r;refine F5 (fun Y=>if Y=12 then .agg (C0 fxF)else if Y=13 then .bool true else if Y=20 then .bool true else if Y=107 then .bool true else .undef) [I,q] ?_;repeat' (first|simp only[go_sem,seval,d,i,g,j,r,m3,X]|intro e|with_reducible refine R0 (fun H' Q hro hq=>A7f H' hq) ?_|with_reducible refine R0 (fun H' Q hro hq=>B7X fxF J8.2.1 H' hq) ?_)
 rename_i bv;have G:=e;clear e;have a9:bv∉[I,q]:=by simp only[D0H,D0I,or_false];rintro(rfl|rfl);rw[d]at G;cases G;rw[r]at G;cases G
 refine C8M (o:=.vec 2 (Rw vlC fxVals)) G rfl a9 (fun H' Q hro hb hq=>A0Q hb rfl (B9s fxVals A6T _ hq)) ?_;repeat' (first|with_reducible apply C9p|simp only[go_sem,seval,d,i,g,j,r,m3,X]|intro e|with_reducible refine R0 (fun H' Q hro hq=>C3e H' hq) ?_|omega)
 exact D1H C h
theorem B7f(f:Fm)(L:FmFit f): ∀{Q:D→Heap→Prop} (left:Int) (H:Heap) (h:Q (.int .i64 (T7 f left)) H),D7 43 [.agg (C0 f),.int .i64 left] H Q:=by
 induction L with
 |mk o n l s ks ho hn hl hs hk X M=>
 intro Q left H h;rw[B3E]at h;change Q (.int .i64 (T7.cntK ks (tcF l.t (IntKind.i64.wrap (left-IntKind.i64.wrap (IntKind.i64.wrap (1+s.size / 100)+l.t.length)))))) H at h;have O:=hl.len;rw[A4 (x:=1+(s.size:Int) / 100) (by omega) (by omega),A4 (x:=1+(s.size:Int) / 100+(l.t.length:Int)) (by omega) (by omega)]at h;have e:C0 (.mk o n l s ks)= [.int .i64 o,.int .i64 n,.sl 2 (Rw Q7 l.t),.int .i64 l.k,.bool l.e,.str s,.sl 7 (Rw C0 ks)]:=N3 _;rw[e];refine A8 [] A5 Tryz.func43 rfl ?_;simp only[go_sem,seval,Tryz.results43];intro C T;have e2:(H.set C (.box [.int .i64 o,.int .i64 n,.sl 2 (Rw Q7 l.t),.int .i64 l.k,.bool l.e,.str s,.sl 7 (Rw C0 ks)])) C=some (.box [.int .i64 o,.int .i64 n,.sl 2 (Rw Q7 l.t),.int .i64 l.k,.bool l.e,.str s,.sl 7 (Rw C0 ks)]):=A2 _ _;have y:H.Le (H.set C (.box [.int .i64 o,.int .i64 n,.sl 2 (Rw Q7 l.t),.int .i64 l.k,.bool l.e,.str s,.sl 7 (Rw C0 ks)])):=A0 T;generalize H.set C (.box [.int .i64 o,.int .i64 n,.sl 2 (Rw Q7 l.t),.int .i64 l.k,.bool l.e,.str s,.sl 7 (Rw C0 ks)])=Bs at e2 y⊢;repeat' (first|with_reducible apply C9p|simp only[go_sem,seval,e2]|simp(disch:=omega) only[A4,A9,D0]|intro z|omega)
 refine C9 [2,23,24] (fun(p:Nat×Int)=>[(25,.int .i64 p.1),(1,.int .i64 p.2)]) (fun(p:Nat×Int)=>Bs) (fun(p:Nat×Int)=>p.1≤l.t.length∧tcF (l.t.drop p.1) p.2=tcF l.t (IntKind.i64.wrap (left-(1+(s.size:Int) / 100+l.t.length)))) (fun(p:Nat×Int)=>l.t.length-p.1) ((0,IntKind.i64.wrap (left-(1+(s.size:Int) / 100+l.t.length)))) (⟨D0A _,rfl⟩) (by(try simp only[go_sem,seval])<;>(try simp(disch:=omega) [A4])) (by first|exact D1G _|exact A0 (by assumption)|exact B2 (by assumption)|simp only[Heap.Le,Heap.set,Heap.del]at* <;>grind) ?_;rintro U rfl ⟨i,n⟩ ⟨V,hv⟩;simp only at V hv;by_cases r:i<l.t.length
 ·have A:decide ((i:Int)<l.t.length)=true:=C9r (by omega);have G:(i:Int)<l.t.length:=by omega
  have hsz:=hl.str _ (C93 r);repeat' (first|with_reducible apply C9p|simp only[go_sem,seval,A,G,A9 _ _ r,C1 _ _ r]|simp(disch:=omega) only[A4,A9,D0]|intro z|omega)
  rw[D0K r,tcF]at hv;exact C2 (i+1,IntKind.i64.wrap (n-(l.t[i].v.size:Int) / 100)) ⟨by simp only[];omega,hv⟩ (by simp only[];omega) (by(try simp only[go_sem,seval])<;>(try simp(disch:=omega) [A4])) (by simp only[E6,D2,D3]at* <;>grind)
 ·have A:decide ((i:Int)<l.t.length)=false:=C9s (by omega);rw[List.drop_of_length_le (by omega),tcF]at hv;rw[←hv]at h;clear hv;repeat' simp only[go_sem,seval,A,e2]
  refine C9 [37,38] (fun(p:Nat×Int)=>[(39,.int .i64 p.1),(1,.int .i64 p.2)]) (fun(p:Nat×Int)=>Bs) (fun(p:Nat×Int)=>p.1≤ks.length∧T7.cntK (ks.drop p.1) p.2=T7.cntK ks n) (fun(p:Nat×Int)=>ks.length-p.1) ((0,n)) (⟨D0A _,rfl⟩) (by(try simp only[go_sem,seval])<;>(try simp(disch:=omega) [A4])) (by first|exact D1G _|exact A0 (by assumption)|exact B2 (by assumption)|simp only[Heap.Le,Heap.set,Heap.del]at* <;>grind) ?_;rintro U rfl ⟨j,m⟩ ⟨W,hw⟩;simp only at W hw;by_cases d:j<ks.length
  ·have q:decide ((j:Int)<ks.length)=true:=C9r (by omega);have u:(j:Int)<ks.length:=by omega
   have I: ∀{Q:D→Heap→Prop} (left:Int) (H:Heap) (h:Q (.int .i64 (T7 ks[j] left)) H),D7 43 [.agg (C0 ks[j]),.int .i64 left] H Q:=M ks[j] (C93 d);rw[D0K d,T7.cntK]at hw;by_cases g:m<0
   ·rw[if_pos g]at hw;have J:=C9r g;repeat' (first|with_reducible apply C9p|simp only[go_sem,seval,q,u,g,J,A9 _ _ d,C1 _ _ d]|intro z|omega)
    rw[hw];exact D1H (y.trans (A0 (by assumption))) h
   ·rw[if_neg g]at hw;have J:=C9s g;repeat' (first|with_reducible apply C9p|simp only[go_sem,seval,q,u,g,J,A9 _ _ d,C1 _ _ d]|simp(disch:=omega) only[A4,A9,D0]|intro z|with_reducible refine I _ _ ?_|omega)
    exact C2 (j+1,T7 ks[j] m) ⟨by simp only[];omega,hw⟩ (by simp only[];omega) (by(try simp only[go_sem,seval])<;>(try simp(disch:=omega) [A4])) (by simp only[E6,D2,D3]at* <;>grind)
  ·have q:decide ((j:Int)<ks.length)=false:=C9s (by omega);rw[List.drop_of_length_le (by omega),T7.cntK]at hw;repeat' simp only[go_sem,seval,q]
   rw[hw];exact D1H y h
theorem C3f{Q}(l:List Fm)(hl:l.length≤1466015503658)(o: ∀f∈l,FmFit f)(H:Heap)(h:Q (.bool (decide (0≤B4R l 600))) H):D7 12 [.sl 7 (Rw C0 l)] H Q:=by
 refine A8 [] A5 Tryz.func12 rfl ?_;simp only[go_sem,seval,Tryz.results12];repeat' (first|with_reducible apply C9p|simp only[go_sem,seval]|simp(disch:=omega) only[A4,A9,D0]|intro g|omega)
 refine C9 [6,7] (fun(p:Nat×Int)=>[(8,.int .i64 p.1),(3,.int .i64 p.2)]) (fun(p:Nat×Int)=>H) (fun(p:Nat×Int)=>p.1≤l.length∧B4R (l.drop p.1) p.2=B4R l 600) (fun(p:Nat×Int)=>l.length-p.1) ((0,600)) (⟨D0A _,rfl⟩) (by(try simp only[go_sem,seval])<;>(try simp(disch:=omega) [A4])) (by first|exact D1G _|exact A0 (by assumption)|exact B2 (by assumption)|simp only[Heap.Le,Heap.set,Heap.del]at* <;>grind) ?_;rintro r rfl ⟨i,n⟩ ⟨q,hv⟩;simp only at q hv;by_cases d:i<l.length
 ·have e:decide ((i:Int)<l.length)=true:=C9r (by omega);have j:(i:Int)<l.length:=by omega
  have m: ∀{Q:D→Heap→Prop} (left:Int) (H:Heap) (h:Q (.int .i64 (T7 l[i] left)) H),D7 43 [.agg (C0 l[i]),.int .i64 left] H Q:=B7f l[i] (o _ (C93 d));rw[D0K d,B4R]at hv;repeat' (first|with_reducible apply C9p|simp only[go_sem,seval,e,j,A9 _ _ d,C1 _ _ d]|simp(disch:=omega) only[A4,A9,D0]|intro g|with_reducible refine m _ _ ?_|omega)
  exact C2 (i+1,T7 l[i] n) ⟨by simp only[];omega,hv⟩ (by simp only[];omega) (by(try simp only[go_sem,seval])<;>(try simp(disch:=omega) [A4])) (by simp only[E6,D2,D3]at* <;>grind)
 ·have e:decide ((i:Int)<l.length)=false:=C9s (by omega);rw[List.drop_of_length_le (by omega),B4R]at hv;rw[←hv]at h;repeat' simp only[go_sem,seval,e]
  first
   |exact D1K h
   |(rw[show decide (n≥0)=decide (0≤n)from rfl];exact D1K h)
theorem B90{Q}{b n:Nat}{H0:Heap}(d:H0 b=none)(f:Fm)(e:FmFit f)(hn:n=1)(h:Q (.bool (decide (0≤T7 f 600))) H0):D7 12 [.vec b 7 0 n] (H0.set b (.vec 7 [C0 f])) Q:=
 Q6 (es:=Rw C0 [f]) d hn (C3f [f] (by simp) (fun x hx=>by rw[D0G]at hx;rw[hx];exact e) H0 h)
set_option maxHeartbeats 4000000 in
theorem B7g{Q}(f:Fm)(vs:List VlV)(p:FmFit f)(u:A4a vs)(H:Heap)(y:Tabs H)(h:Q (.bool true) H):D7 10 [.agg (C0 f),.sl 2 (Rw vlC vs)] H Q:=by
 refine A8 [] A5 Tryz.func10 rfl ?_;simp only[go_sem,seval,Tryz.results10];intro q z;have e2:(H.set q (.box (C0 f))) q=some (.box (C0 f)):=A2 _ _;have d:H.Le (H.set q (.box (C0 f))):=A0 z;generalize H.set q (.box (C0 f))=Bs at e2 d⊢;have e:=y.le d;have C:=u.len;repeat' intro o
 refine B90 (by assumption) f p rfl ?_;by_cases hc:0≤T7 f 600
 ·have x:=(B9V p hc).1;rw[C9r hc];by_cases m:(60:Int)<vs.length
  ·repeat' (first|simp only[go_sem,seval,m]|with_reducible refine A01 _ e ?_)
   exact D1H d h
  ·have g:=fun h1 i=>B7I (f:=f) (vs:=vs) h1 i;have ac:=fun(Q:D→Heap→Prop) (H:Heap)=>C3b (Q:=Q) f p x vs u H;have r:=fun(Q:D→Heap→Prop) (H:Heap)=>C07 (Q:=Q) f p x H;have j:(notF f).2=0→FmFit (notF f).1∧VOk (notF f).1:=fun i=>by
    unfold notF at i⊢;by_cases hv:E5 f=true
    ·rw[if_pos hv]at i⊢;have:=A55 f true (L5 hv) p;by_cases hw:E5 (normF f true)=true
     ·rw[if_pos hw];exact⟨this.1,.inl (by have:=A6H hw;show K9 (normF f true)≤1000000;omega)⟩
     ·rw[if_neg hw]at i;cases i
    ·rw[if_neg hv]at i;cases i
   generalize notF f=N at g r j;generalize M:atF f vs=A at g ac;obtain⟨G,ne⟩:=N;obtain⟨I,J⟩:=A;simp only at g j;by_cases h1:J=0
   ·subst h1;by_cases i:ne=0
    ·subst i;have g:=g rfl rfl;obtain⟨n1,n2⟩:=j rfl;repeat' (first|simp only[go_sem,seval,m,e2]|intro o|with_reducible refine ac _ _ ?_|with_reducible refine r _ _ ?_)
     refine C3b G n1 n2 vs u _ ?_;rw[g];cases I with
     |true=>
      repeat' (first|simp only[go_sem,seval]|with_reducible refine A01 _ (e.le (A0 (by assumption))) ?_)
      exact D1H (d.trans (A0 (by assumption))) h
     |false=>
      repeat' (first|simp only[go_sem,seval]|with_reducible refine A01 _ (e.le (A0 (by assumption))) ?_)
      exact D1H (d.trans (A0 (by assumption))) h
    ·have L:=C9s i;repeat' (first|simp only[go_sem,seval,m,e2,i,L]|intro o|with_reducible refine ac _ _ ?_|with_reducible refine r _ _ ?_|with_reducible refine A01 _ (e.le (A0 (by assumption))) ?_)
     exact D1H (d.trans (A0 (by assumption))) h
   ·have d1:=C9s h1;repeat' (first|simp only[go_sem,seval,m,e2,h1,d1]|intro o|with_reducible refine ac _ _ ?_|with_reducible refine r _ _ ?_|with_reducible refine A01 _ (e.le (A0 (by assumption))) ?_)
    exact D1H (d.trans (A0 (by assumption))) h
 ·rw[C9s hc];repeat' (first|simp only[go_sem,seval]|with_reducible refine A01 _ e ?_)
  exact D1H d h
end Go.Proofs.YtibphjonmikciaaGreatDoor
namespace Go.Av
open Go.RowKit Go.ChangeShapes Go.WideShapes
def B0r(P:Program):Nat→List Field→Option Nat
 |o,[]=>some o
 |o,f::r=>if f.offset=o then B0r P (o+P.cellsOf f.type) r else none
def A4Q(P:Program)(l:List TypeId)(t:TypeId):Bool:=match P.underlying t with
 |some .bool|some (.int _)|some .string=>decide (P.cellsOf t=1)
 |some (.slice e)=>decide (P.cellsOf t=1)&&l.contains e&&decide (0<P.cellsOf e)&&decide (0<P.bytesOf e)
 |some (.struct fs)=>decide (B0r P 0 fs.toList=some (P.cellsOf t))&&fs.toList.all (fun f=>l.contains f.type)
 |_=>false
def plainB(P:Program)(l:List TypeId):Bool:=l.all (A4Q P l)
inductive Z7(P:Program):TypeId→List D→Prop
 |bool {t:TypeId} (b:Bool) (h:P.underlying t=some .bool):Z7 P t [.bool b]
 |int {t:TypeId} {k:IntKind} (n:Int) (h:P.underlying t=some (.int k)) (hw:(Lit.int k n).wf=true):Z7 P t [.int k n]
 |str {t:TypeId} (s:ByteArray) (h:P.underlying t=some .string) (hs:s.size≤reachBytes):Z7 P t [.str s]
 |sl {t e:TypeId} (es:List (List D)) (h:P.underlying t=some (.slice e)) (hl:es.length*P.bytesOf e≤reachBytes) (he: ∀x∈es,Z7 P e x):Z7 P t [.sl (P.cellsOf e) es]
 |struct {t:TypeId} {fs:Array Field} (ps:List (List D)) (h:P.underlying t=some (.struct fs)) (hl:ps.length=fs.size) (hp: ∀(i:Nat) (f:Field) (p:List D),fs[i]? =some f→ps[i]? =some p→Z7 P f.type p):Z7 P t ps.flatten
section
variable {H:Type} {enc:TypeId×Value→H} {P:Program}
def B7h(w:World)(Hp:Heap)(ds:List D)(cs:List Value):Prop:=∀(j:Nat) (d:D),ds[j]? =some d→d.one=true∧R w Hp d (cs.getD j Go.undef)
theorem A7i{w:World}{Hp:Heap}{cs:List Value}: ∀(fs:List Field) (o m:Nat) (ps:List (List D)),B0r P o fs=some m→m≤cs.length→ps.length=fs.length→
  (∀(i:Nat) (f:Field) (p:List D),fs[i]? =some f→ps[i]? =some p→p.length=P.cellsOf f.type∧B7h w Hp p ((cs.drop f.offset).take (P.cellsOf f.type)))→
  o≤m∧o+ps.flatten.length=m∧∀(j:Nat) (d:D),ps.flatten[j]? =some d→d.one=true∧R w Hp d (cs.getD (o+j) Go.undef)
 | [],o,m,ps,g,_,hl,_=>by
  have:ps= []:=D0D (by simpa using hl);subst this;simp only[B0r,D0R]at g;subst g;exact⟨C99 _,by simp,fun j d h=>by simp at h⟩
 |f::r,o,m,ps,g,hm,hl,hp=>by
  cases ps with
  |nil=>simp at hl
  |cons p ps=>
   unfold B0r at g;split at g
   ·rename_i ho;obtain⟨q,u⟩:=hp 0 f p rfl rfl;obtain⟨h1,L,y⟩:=A7i r (o+P.cellsOf f.type) m ps g hm (by simpa using hl) (fun i z A C x=>hp (i+1) z A (by simpa using C) (by simpa using x));refine⟨by omega,by rw[List.flatten_cons,C9v,q];omega,fun j d h=>?_⟩;rw[List.flatten_cons,List.getElem?_append]at h;split at h
    ·rename_i G;obtain⟨I,J⟩:=u j d h;refine⟨I,?_⟩;have e:((cs.drop f.offset).take (P.cellsOf f.type)).getD j Go.undef=cs.getD (o+j) Go.undef:=by
      rw[List.getD_eq_getElem?_getD,List.getD_eq_getElem?_getD,List.getElem?_take_of_lt (by omega),List.getElem?_drop,ho]
     rw[←e];exact J
    ·rename_i G;have:=y (j-p.length) d h;have e:o+P.cellsOf f.type+(j-p.length)=o+j:=by omega
     rw[e]at this;exact this
   ·cases g
theorem A12{e:TypeId}{n:Nat}: ∀{l:List (DataW H)},(DataW.weightsAll P e l).all (· ≤n)=true→∀d∈l,(d.weights P e).all (· ≤n)=true
 | [],_,d,g=>by cases g
 |x::l,h,d,g=>by
  rw[DataW.weightsAll,D0t,C92]at h;rcases D0H.1 g with rfl|g
  ·exact h.1
  ·exact A12 h.2 d g
theorem W0{n:Nat}: ∀{j:List TypeId} {l:List (DataW H)},(DataW.weightsEach P j l).all (· ≤n)=true→∀(i:Nat) t d,j[i]? =some t→l[i]? =some d→(d.weights P t).all (· ≤n)=true
 | [],_,_,i,t,d,e,_=>by simp at e
 |_::_,[],_,i,t,d,_,g=>by simp at g
 |t0::j,m::l,h,i,t,d,e,g=>by
  rw[DataW.weightsEach,D0t,C92]at h;cases i with
  |zero=>simp at e g;subst e;subst g;exact h.1
  |succ i=>exact W0 h.2 i t d (by simpa using e) (by simpa using g)
theorem B0s{a:Addr}(hs:a.spot=none)(n:Nat):a.add n=⟨a.block,a.off+n,none⟩:=by
 obtain⟨b,o,s⟩:=a;simp only at hs;subst hs;unfold Addr.add;split
 ·rename_i h;subst h;rfl
 ·rfl
theorem A8q{l:List TypeId}(hB:plainB P l=true){w:World}{base:Nat}{sp:Nat→Bool}{hd:Bool}{Hp:Heap}(hH: ∀b,Hp.held b=false):
  ∀(n:Nat) (t:TypeId) (cs:List Value) (x:DataW H×List MemPlace),t∈l→DataW.trod enc P w base sp hd n t cs=some x→(x.1.weights P t).all (· ≤reachBytes)=true→
   cs.length=P.cellsOf t∧∃ds,Z7 P t ds∧ds.length=cs.length∧B7h w Hp ds cs:=by
 intro n
 induction n with
 |zero=>intro t cs x _ h;simp[DataW.trod]at h
 |succ n ih=>
  intro t cs x ht h hw;have o:A4Q P l t=true:=D0Q.1 hB t ht;unfold A4Q at o;have one: ∀{d:D} {v:Value},d.one=true→R w Hp d v→B7h w Hp [d] [v]:=fun h1 h2 j d' C=>by
   cases j with
   |zero=>simp at C;subst C;exact⟨h1,h2⟩
   |succ j=>simp at C
  cases z:P.underlying t with
  |none=>rw[z]at o;cases o
  |some u=>
   cases u with
   |bool=>
    rw[z]at o;obtain⟨b,rfl,rfl⟩:=DataW.trod_bool z h;exact⟨(C9q o).symm,_,.bool b z,rfl,one rfl (.bool b)⟩
   |int k=>
    rw[z]at o;obtain⟨m,rfl,rfl,b6⟩:=DataW.trod_int z h;exact⟨(C9q o).symm,_,.int m z b6,rfl,one rfl (.int k m)⟩
   |string=>
    rw[z]at o;obtain⟨s,rfl,rfl,_⟩:=DataW.trod_string z h;have hsz:s.size≤reachBytes:=by simpa [DataW.weights]using hw
    exact⟨(C9q o).symm,_,.str s z hsz,rfl,one rfl (.str s)⟩
   |slice e=>
    rw[z]at o;simp only[C92,D0B]at o;obtain⟨⟨⟨a4,U⟩,b7⟩,c9⟩:=o;have U:e∈l:=by simpa using U
    rcases DataW.trod_slice z h with⟨rfl,rfl⟩|⟨a,len,cap,A,rest,m,hm,rfl,rfl,hb,b8,d0,hlen,V,_,_⟩
    ·exact⟨a4.symm,_,.sl [] z (by simp) (by simp),rfl,one rfl (.sl0 _ _ _)⟩
    ·cases hm;have a5:(A.length+rest.length)*P.bytesOf e≤reachBytes∧(DataW.weightsAll P e (A.map (·.1))).all (· ≤reachBytes)=true:=by
      rw[DataW.weights,z]at hw;simp only[D0s,D0t,C92,D0B,D0Y]at hw;exact⟨hw.1,hw.2.1⟩
     have W: ∀i,∃p:List D×List Value,i<len→Z7 P e p.1∧p.1.length=P.cellsOf e∧B7h w Hp p.1 p.2∧∀j,j<P.cellsOf e→w.cell? ((a.add (i*P.cellsOf e)).add j)=some (p.2.getD j Go.undef):=by
      intro i;by_cases r:i<len
      ·have M:=V i r;have a6:i<A.length:=by omega
       rw[C96 a6,C91]at M;obtain⟨ci,b9,c0⟩:=M;obtain⟨_,X,c1⟩:=World.cells?_some b9;obtain⟨k1,ds,k2,k3,k4⟩:=ih e ci A[i] U c0 (A12 a5.2 _ (D0n.2 ⟨_,C93 a6,rfl⟩));refine⟨(ds,ci),fun _=>⟨k2,by rw[k3];exact k1,k4,fun j hj=>?_⟩⟩;rw[c1 j hj,List.getD_eq_getElem?_getD,C96 (by rw[X];exact hj)];rfl
      ·exact⟨([],[]),fun h=>absurd h r⟩
     obtain⟨g,L⟩:=Classical.skolem.1 W;have O: ∀(i:Nat) (x:List D),((List.range len).map fun i=>(g i).1)[i]? =some x→i<len∧x=(g i).1:=fun i x hx=>by
      simp only[D0C,C9y]at hx;obtain⟨y,M,rfl⟩:=hx;have r:=(C9z.1 M).1;simp at r;rw[List.getElem?_range r]at M;cases M;exact⟨r,rfl⟩
     have T:((List.range len).map fun i=>(g i).1).length=len:=by simp
     refine⟨a4.symm,_,.sl ((List.range len).map fun i=>(g i).1) z ?_ ?_,rfl,one rfl ?_⟩
     ·rw[T];refine D0v (D0V _ ?_) a5.1;omega
     ·intro x hx;obtain⟨i,r⟩:=List.mem_iff_getElem?.1 hx;obtain⟨c2,rfl⟩:=O i x r;exact(L i c2).1
     ·show R w Hp (.sl (P.cellsOf e) ((List.range len).map fun i=>(g i).1)) (.slice (some a) len cap);by_cases hz:len=0
      ·subst hz;exact .sl0 _ _ _
      ·have q:=(L 0 (by omega)).2.2.2 0 b7;rw[Nat.zero_mul]at q;have G:a.spot=none:=by
        have e0:(a.add 0).add 0=a:=rfl;rw[e0]at q;unfold World.cell? at q;split at q
        ·split at q
         ·cases q
         ·rename_i a9;cases c3:a.spot with
          |none=>rfl
          |some _=>rw[c3]at a9;exact absurd rfl a9
        ·cases q
       have b0:a.block<w.heap.size:=by
        have e0:(a.add 0).add 0=a:=rfl;rw[e0]at q;unfold World.cell? at q;by_cases c4:a.block<w.heap.size
        ·exact c4
        ·rw[Array.getElem?_eq_none (by omega)]at q;cases q
       have Y: ∀i j,i<len→j<P.cellsOf e→w.cell? ⟨a.block,a.off+i*P.cellsOf e+j,none⟩=some ((g i).2.getD j Go.undef):=fun i j r hj=>by
        have:=(L i r).2.2.2 j hj;rw[B0s G,B0s rfl]at this;exact this
       have hR:=R.sl (w:=w) (H:=Hp) (P.cellsOf e) ((List.range len).map fun i=>(g i).1) a.block a.off cap (fun i j=>(g i).2.getD j Go.undef) b0 (hH _)
        (fun i x hx=>by obtain⟨r,rfl⟩:=O i x hx;exact(L i r).2.1) (by rw[T];exact b8) (fun i j r hj=>Y i j (by rw[T]at r;exact r) hj)
        (fun i x j d hx C=>by obtain⟨r,rfl⟩:=O i x hx;exact((L i r).2.2.1 j d C).1) (fun i x j d hx C=>by obtain⟨r,rfl⟩:=O i x hx;exact((L i r).2.2.1 j d C).2)
       rw[T]at hR;obtain⟨ab,ao,d2⟩:=a;simp only at G;subst G;exact hR
   |struct fs=>
    rw[z]at o;simp only[C92,D0B,D0Q]at o;obtain⟨a0,b1⟩:=o;obtain⟨xs,m,hm,rfl,X,d3,V⟩:=DataW.trod_struct z h;cases hm;have c5:(DataW.weightsEach P (fs.toList.map (·.type)) (xs.map (·.1))).all (· ≤reachBytes)=true:=by
     rw[DataW.weights,z]at hw;exact hw
    have W: ∀i:Nat,∃p:List D,∀f:Field,fs[i]? =some f→Z7 P f.type p∧p.length=P.cellsOf f.type∧B7h w Hp p ((cs.drop f.offset).take (P.cellsOf f.type)):=by
     intro i;cases I:fs[i]? with
     |none=>exact⟨[],fun f h=>by cases h⟩
     |some f=>
      have r:=(D0E.1 I).1;have b2:i<xs.length:=by omega
      have M:=V i f I;rw[C96 b2]at M;have c6:f.type∈l:=by
       have:=b1 f (by rw[D0U];exact Array.mem_of_getElem? I);simpa using this
      have c7:=W0 c5 i f.type xs[i].1 (by simp[I]) (by simp[C96 b2]);obtain⟨k1,ds,k2,k3,k4⟩:=ih f.type _ xs[i] c6 M c7;refine⟨ds,fun f' J=>?_⟩;cases J;exact⟨k2,by rw[k3];exact k1,k4⟩
    obtain⟨g,L⟩:=Classical.skolem.1 W;have c8:((List.range fs.size).map g).length=fs.size:=by simp
    have b3: ∀(i:Nat) (f:Field) (p:List D),fs[i]? =some f→((List.range fs.size).map g)[i]? =some p→p=g i:=fun i f p I hp=>by
     have r:=(D0E.1 I).1;rw[D0C,List.getElem?_range r]at hp;cases hp;rfl
    obtain⟨_,hlen,b4⟩:=A7i (P:=P) (w:=w) (Hp:=Hp) (cs:=cs) fs.toList 0 (P.cellsOf t) ((List.range fs.size).map g) a0 (by omega) (by simp) (fun i f p I hp=>by
     have J:fs[i]? =some f:=by simpa using I
     have:=b3 i f p J hp;subst this;exact⟨(L i f J).2.1,(L i f J).2.2⟩)
    refine⟨X,_,.struct ((List.range fs.size).map g) z c8 (fun i f p I hp=>by have:=b3 i f p I hp;subst this;exact(L i f I).1),by omega,fun j d hd=>?_⟩;have:=b4 j d hd;rwa [Nat.zero_add]at this
   |_=>rw[z]at o;cases o
def A13(P:Program)(t:TypeId)(x:D):Prop:=match P.underlying t with
 |some (.struct _)=>∃ds,x= .agg ds∧Z7 P t ds
 |_=>Z7 P t [x]
theorem B0t{l:List TypeId}(C:plainB P l=true){w:World}{base J:Nat}{L:Nat→Bool}{q:Bool}{Hp:Heap}(M: ∀b,Hp.held b=false){t:TypeId}{v:Value}{d:DataW H}{ps:List MemPlace}(G:t∈l)
  (g:Value.okWide P w .any J t v) (h:DataW.Trod enc P w base L q t v d ps) (hw:(d.weights P t).all (· ≤reachBytes)=true): ∃x,A13 P t x∧R w Hp x v:=by
 obtain⟨n,hn⟩:=h;obtain⟨h1,ds,I,y,r⟩:=A8q C M n t v.cells.toList (d,ps) G hn hw;have o:A4Q P l t=true:=D0Q.1 C t G;have j:(∀fs,P.underlying t≠some (.struct fs))→v.cells.toList= [v]→∃x,A13 P t x∧R w Hp x v:=by
  intro z hv;rw[hv]at y r
  match ds,y with
  | [x],_=>
   refine⟨x,?_,(r 0 x rfl).2⟩;unfold A13;split
   ·rename_i fs A;exact absurd A (z fs)
   ·exact I
 cases p:P.underlying t with
 |none=>unfold A4Q at o;rw[p]at o;cases o
 |some u=>
  cases u with
  |bool=>obtain⟨b,rfl⟩:=okWide_bool p g;exact j (by simp[p]) rfl
  |int k=>obtain⟨m,rfl⟩:=okWide_int p g;exact j (by simp[p]) rfl
  |string=>obtain⟨s,rfl⟩:=okWide_string p g;exact j (by simp[p]) rfl
  |slice e=>obtain⟨a,len,cap,rfl⟩:=okWide_slice p g;exact j (by simp[p]) rfl
  |struct fs=>
   simp only[Value.okWide,p]at g;obtain⟨cs,rfl,hsz,_⟩:=g;refine⟨.agg ds,?_,.agg _ _ (by rw[y];rfl) (fun i d q=>(r i d q).1) (fun i d q=>?_)⟩
   ·unfold A13;rw[p];exact⟨ds,rfl,I⟩
   ·have:=(r i d q).2;have e:(Value.agg cs).cells.toList.getD i Go.undef=cs.getD i Go.undef:=by
     show cs.toList.getD i Go.undef=_;simp
    rwa [e]at this
  |_=>unfold A4Q at o;rw[p]at o;cases o
theorem A6U{t:TypeId}{ds:List D}(d:P.underlying t=some .string)(h:Z7 P t ds): ∃s,ds= [.str s]∧s.size≤reachBytes:=by
 cases h with
 |str s h hs=>exact⟨s,rfl,hs⟩
 |bool b h=>rw[d]at h;cases h
 |int n h=>rw[d]at h;cases h
 |sl es h=>rw[d]at h;cases h
 |struct ps h=>rw[d]at h;cases h
theorem B4e{t:TypeId}{ds:List D}(d:P.underlying t=some .bool)(h:Z7 P t ds): ∃b,ds= [.bool b]:=by
 cases h with
 |bool b h=>exact⟨b,rfl⟩
 |str s h hs=>rw[d]at h;cases h
 |int n h=>rw[d]at h;cases h
 |sl es h=>rw[d]at h;cases h
 |struct ps h=>rw[d]at h;cases h
theorem A14{t:TypeId}{k:IntKind}{ds:List D}(d:P.underlying t=some (.int k))(h:Z7 P t ds): ∃n,ds= [.int k n]∧(Lit.int k n).wf=true:=by
 cases h with
 |int n h hw=>rw[d]at h;cases h;exact⟨n,rfl,hw⟩
 |bool b h=>rw[d]at h;cases h
 |str s h hs=>rw[d]at h;cases h
 |sl es h=>rw[d]at h;cases h
 |struct ps h=>rw[d]at h;cases h
theorem B3M{t e:TypeId}{ds:List D}(d:P.underlying t=some (.slice e))(h:Z7 P t ds): ∃es,ds= [.sl (P.cellsOf e) es]∧es.length*P.bytesOf e≤reachBytes∧∀x∈es,Z7 P e x:=by
 cases h with
 |sl es h hl he=>rw[d]at h;cases h;exact⟨es,rfl,hl,he⟩
 |bool b h=>rw[d]at h;cases h
 |str s h hs=>rw[d]at h;cases h
 |int n h=>rw[d]at h;cases h
 |struct ps h=>rw[d]at h;cases h
theorem A15{t:TypeId}{fs:Array Field}{ds:List D}(d:P.underlying t=some (.struct fs))(h:Z7 P t ds): ∃ps:List (List D),ds=ps.flatten∧ps.length=fs.size∧∀(i:Nat) (f:Field) (p:List D),fs[i]? =some f→ps[i]? =some p→Z7 P f.type p:=by
 cases h with
 |struct ps h hl hp=>rw[d]at h;cases h;exact⟨ps,rfl,hl,hp⟩
 |bool b h=>rw[d]at h;cases h
 |str s h hs=>rw[d]at h;cases h
 |int n h=>rw[d]at h;cases h
 |sl es h=>rw[d]at h;cases h
theorem B16{t:TypeId}{x:D}(hn: ∀fs,P.underlying t≠some (.struct fs))(h:A13 P t x):Z7 P t [x]:=by
 unfold A13 at h;split at h
 ·rename_i fs d;exact absurd d (hn fs)
 ·exact h
theorem A8r{t:TypeId}{fs:Array Field}{x:D}(d:P.underlying t=some (.struct fs))(h:A13 P t x): ∃ds,x= .agg ds∧Z7 P t ds:=by
 unfold A13 at h;rw[d]at h;exact h
theorem B7i{t e:TypeId}{x:D}(d:P.underlying t=some (.slice e))(h:A13 P t x): ∃es,x= .sl (P.cellsOf e) es∧es.length*P.bytesOf e≤reachBytes∧∀y∈es,Z7 P e y:=by
 obtain⟨s,h1,g⟩:=B3M d (B16 (by simp[d]) h);simp at h1;exact⟨s,h1,g⟩
theorem A6V{n:Int}(h:(Lit.int .i64 n).wf=true): -9223372036854775808≤n∧n≤9223372036854775807:=by
 unfold Lit.wf at h;rw[C92,D0B,D0B]at h;exact h
theorem A3i(hl:laidOutB P=true){W j:World}(hb:Below W.heap.size W j): ∀{g:List TypeId} {vs:List Value} {ds:List (DataW H)} {ps:List MemPlace},g.all (fun t=>P.readableRec t&&decide (t<P.types.size))=true→
  DataW.TrodAll enc P W 0 (fun _=>true) true g vs ds ps→(∀x∈ps,x.block<W.heap.size)→DataW.TrodAll enc P j 0 (fun b=>decide (b<W.heap.size)) true g vs ds ps
 | [],[],[],_,_,h,_=>h
 | [],[],_::_,_,_,h,_=>h.elim
 | [],_::_,_,_,_,h,_=>h.elim
 |_::_,[],_,_,_,h,_=>h.elim
 |_::_,_::_,[],_,_,h,_=>h.elim
 |t::g,v::vs,d::ds,ps,i,h,e=>by
  obtain⟨p,q,h1,m,rfl⟩:=h;simp only[D0s,C92,D0B]at i;exact⟨p,q,Below.trod hl i.1.1 i.1.2 h1 hb (fun x hx=>e x (List.mem_append_left _ hx)),A3i hl hb i.2 m (fun x hx=>e x (List.mem_append_right _ hx)),rfl⟩
theorem B4f{f:Nat}{fn:Func}{s:ChangeSpec}{W:World}{args:Array Value}{ds M:List (DataW H)}{g:List MemPlace}{tb:TypeId}(m:laidOutB P=true)(o:fn.params.toList.all (fun t=>P.readableRec t&&decide (t<P.types.size))=true)
  (hv:s.vars= []) (u:fn.resultTypes= #[tb]) (hb:P.underlying tb=some .bool) (hs:s.fn H ds= {results:=[.lit (.bool true)],args:=ds})
  (z:DataW.Whole enc P fn.params.toList s.vars false W args.toList ds M g) (Hp:Heap) (O: ∀b,Hp.held b=false) (T:Sat Hp W) (xs:List D) (hx:xs.length=args.size) (U: ∀(i:Nat) d,xs[i]? =some d→R W Hp d (args.getD i Go.undef))
  (V: ∀Q:D→Heap→Prop,Q (.bool true) Hp→ACalls P f xs Hp Q):Calls P f args W fun e A=>∃v,e= .returned v∧s.post enc P fn false true false false W args v A:=by
 have C:=z.lt;have G:=z;obtain⟨p,q,I,L,rfl,X,Y⟩:=z;rw[hv]at L;obtain⟨rfl,rfl⟩:=trodVars_none L;refine((V (fun d _=>d= .bool true) rfl).2 W args hx U T).mono fun e A ⟨v,he,d,H',h1,h2,y,h4,h5⟩=>⟨v,he,?_⟩
 subst h5;have J:=h1.bool_inv;subst J;have j:Below W.heap.size W A:=⟨y.os,y.tape,y.output,y.size,fun k hk=>y.block k hk (O k)⟩
 have r:s.fn H (ds++[])= {results:=[.lit (.bool true)],args:=ds}:=by rw[D0e];exact hs
 refine⟨ds,[],p++[],[],p,[],G,?_,?_,?_,j.frame _,fun h=>by cases h⟩
 ·rw[r,u];exact trodAll_mk1 (shut_bool hb true)
 ·rw[r];exact A3i m j o I (fun x hx=>C x (by simpa using hx))
 ·rw[r,hv];exact rfl
theorem A8s{P:Program}{w:World}: ∀{l:List (String×DataW Unit)} {ps:List MemPlace},DataW.LaidVars P w l ps→∀n d,(n,d)∈l→
  ∃g t cs fuel p,P.globalNamed n=some g∧(P.globals[g]?).map (·.type)=some t∧w.var? P n=some cs∧DataW.trod (fun _=>()) P w 0 (fun _=>true) false fuel t cs.toList=some (d,p)
 | [],_,_,n,d,h=>by cases h
 |(o,u)::r,ps,h,n,d,hm=>by
  obtain⟨g,t,cs,fuel,p,q,h1,i,j,m,h5,_⟩:=h;rcases D0H.1 hm with e|hm
  ·cases e;exact⟨g,t,cs,fuel,p,h1,i,j,m⟩
  ·exact A8s h5 n d hm
theorem B91{P:Program}{W:World}{laid:List (String×DataW Unit)}(h:laidMet P laid W){name:String}{k:IntKind}{A:List Int}(hm:(name,Lib.tabData k A)∈laid){g:Nat}{t e:TypeId}{n:Nat}
  (C:P.globalNamed name=some g) (q:(P.globals[g]?).map (·.type)=some t) (G:P.underlying t=some (.array n e)) (he:P.underlying e=some (.int k)) (r:P.cellsOf e=1) (u:P.cellsOf t=n) (Hp:Heap):ObjOk W Hp g (.ro (A9k k A)):=by
 obtain⟨ps,hl,_⟩:=h;obtain⟨L,M,cs,fuel,p,x,y,i,o⟩:=A8s hl _ _ hm;obtain rfl:=Option.some.inj (C.symm.trans x);obtain rfl:=Option.some.inj (q.symm.trans y);have m:=Lib.cells_of_tab G he r u o;unfold World.var? at i;rw[C]at i;simp only[D0J]at i;split at i
 ·rename_i c T I hw;cases i;refine⟨cs,T,I,hw,by rw[←D0g,m];simp[A9k],fun j d o=>?_⟩;simp only[A9k,D0C,C9y]at o;obtain⟨z,J,rfl⟩:=o;have e:cs.getD j Go.undef= .int k z:=by
   rw[show cs.getD j Go.undef=cs.toList.getD j Go.undef by simp,m];simp[J]
  rw[e];exact⟨rfl,.int _ _⟩
 ·cases i
end
end Go.Av
section
set_option maxRecDepth 100000
namespace Go.Proofs.YtibphjonmikciaaGreatDoor
open Go Go.Av Go.Lexs Go.Lin
theorem own:ownKnob Tryz.prog.godebug=none:=by kernel_rfl
theorem B92:laidOutB Tryz.prog=true:=by kernel_rfl
def A8t(u v:Nat):Heap:=fun g=>if g=1 then some (.ro (A9k .u64 Lib.pow10Tab))
 else if g=2 then some (.ro [.iface u .undef])
 else if g=3 then some (.ro [.iface v .undef])else none
theorem A4R(u v:Nat)(b:Nat):(A8t u v).held b=false:=by
 cases h:A8t u v b with
 |none=>exact G9 h
 |some o=>
  have: ∃cs,o= .ro cs:=by
   unfold A8t at h;repeat' (split at h;· cases h;exact⟨_,rfl⟩)
   cases h
  obtain⟨cs,rfl⟩:=this;rw[I6 h];rfl
theorem B4g(u v:Nat):Tabs (A8t u v):=by
 refine⟨?_,⟨u,?_⟩,⟨v,?_⟩⟩<;>(unfold A8t;simp only[Nat.reduceEqDiff,if_true,if_false])
theorem B3N{P:Program}{W:World}{laid:List (String×DataW Unit)}(h:laidMet P laid W){name C:String}{x:DataW Unit}(hm:(name,DataW.iface C x)∈laid){g:Nat}{t:TypeId}{ms:Array String}
  (z:P.globalNamed name=some g) (q:(P.globals[g]?).map (·.type)=some t) (A:(match P.underlying t with|some (.interface _)=>true|_=>false)=true) (Hp:Heap): ∃u,ObjOk W Hp g (.ro [.iface u .undef]):=by
 obtain⟨ps,hl,_⟩:=h;obtain⟨J,L,cs,fuel,p,r,y,i,m⟩:=A8s hl _ _ hm;obtain rfl:=Option.some.inj (z.symm.trans r);obtain rfl:=Option.some.inj (q.symm.trans y);have hc: ∃u v,cs.toList= [.iface u v]:=by
  cases fuel with
  |zero=>simp[DataW.trod]at m
  |succ fuel=>
   unfold DataW.trod at m;split at A
   ·rename_i ms G;rw[G]at m;split at m<;>first|(rename_i h1 M;cases h1;done)|skip
    all_goals first|exact⟨_,_,by assumption⟩|(simp at m;done)
   ·cases A
 obtain⟨u,v,o⟩:=hc;unfold World.var? at i;rw[z]at i;simp only[D0J]at i;split at i
 ·rename_i c T I hw;cases i;refine⟨u,cs,T,I,hw,by rw[←D0g,o];rfl,fun j d m=>?_⟩
  match j,m with
  |0,m=>
   cases m;have e:cs.getD 0 Go.undef= .iface u v:=by
    rw[show cs.getD 0 Go.undef=cs.toList.getD 0 Go.undef by simp,o];rfl
   rw[e];exact⟨rfl,.iface _ _ _ (.undef _)⟩
  |j+1,m=>cases m
 ·cases i
theorem B7j:(Rows.laid_internal_strconv_uint64pow10:DataW Unit)=Lib.tabData .u64 Lib.pow10Tab:=by kernel_rfl
theorem B7k{W:World}{laid:List (String×DataW Unit)}(h:laidMet Tryz.prog laid W)(h1:("internal/strconv.uint64pow10",(Rows.laid_internal_strconv_uint64pow10:DataW Unit))∈laid)(p:("strconv.ErrSyntax",(Rows.laid_strconv_ErrSyntax:DataW Unit))∈laid)(q:("strconv.ErrRange",(Rows.laid_strconv_ErrRange:DataW Unit))∈laid):
  ∃u v,Sat (A8t u v) W:=by
 rw[B7j]at h1;obtain⟨u,r⟩:=B3N (ms:= #[]) h p (g:=2) (by kernel_rfl) (t:=140) (by kernel_rfl) (by kernel_rfl) (fun _=>none);obtain⟨v,hv⟩:=B3N (ms:= #[]) h q (g:=3) (by kernel_rfl) (t:=140) (by kernel_rfl) (by kernel_rfl) (fun _=>none);refine⟨u,v,?_⟩;intro b o hb;unfold A8t at hb;have mono: ∀{b x:Nat},ObjOk W (fun _=>none) b (.ro [.iface x .undef])→ObjOk W (A8t u v) b (.ro [.iface x .undef]):=fun {b x} ⟨c,T,z,A,C,m⟩=>⟨c,T,z,A,C,fun j d i=>⟨(m j d i).1,by
  have:=(m j d i).2
  match j,i with
  |0,i=>
   cases i;generalize c.getD 0 Go.undef=y at this⊢;cases this with
   |iface _ _ v hr=>exact .iface _ _ _ (.undef _)
  |j+1,i=>cases i⟩⟩
 split at hb
 ·rename_i e;cases hb;subst e;exact B91 h h1 (by kernel_rfl) (t:=(Tryz.prog.globals[1]?.map (·.type)).getD 0) (by kernel_rfl) (n:=20) (e:=196) (by kernel_rfl) (by kernel_rfl) (by kernel_rfl) (by kernel_rfl) _
 split at hb
 ·rename_i e;cases hb;subst e;exact mono r
 split at hb
 ·rename_i e;cases hb;subst e;exact mono hv
 ·cases hb
theorem B17{α :Type}: ∀(l:List α),l.length=3→∃a b c,l= [a,b,c]
 | [a,b,c],_=>⟨a,b,c,rfl⟩
 | [],h=>by cases h
 | [_],h=>by cases h
 | [_,_],h=>by cases h
 |_::_::_::_::_,h=>by simp at h
theorem B0u{α :Type}: ∀(l:List α),l.length=2→∃a b,l= [a,b]
 | [a,b],_=>⟨a,b,rfl⟩
 | [],h=>by cases h
 | [_],h=>by cases h
 |_::_::_::_,h=>by simp at h
theorem B3O{α :Type}{f: α →List D}{p: α →Prop}: ∀(es:List (List D)),(∀x∈es,∃t,x=f t∧p t)→∃l:List α,es=Rw f l∧∀t∈l,p t
 | [],_=>⟨[],rfl,by simp⟩
 |x::es,h=>by
  obtain⟨t,rfl,e⟩:=h x (by simp);obtain⟨l,rfl,hl⟩:=B3O es (fun y g=>h y (by simp[g]));refine⟨t::l,rfl,fun u d=>?_⟩;rcases D0H.1 d with rfl|d
  ·exact e
  ·exact hl u d
theorem B93{el:List D}(h:Z7 Tryz.prog 114 el): ∃t:LTm,el=Q7 t∧(t.v.size≤140737488351232∧W3 t.c):=by
 have d:reachBytes=140737488351232:=rfl;obtain⟨ps,rfl,hl,hp⟩:=A15 Tryz.underlying114 h;obtain⟨e,g,rfl⟩:=B0u ps hl;obtain⟨s,rfl,hs⟩:=A6U (by kernel_rfl) (hp 0 _ _ rfl rfl);obtain⟨n,rfl,hn⟩:=A14 (k:=.i64) (by kernel_rfl) (hp 1 _ _ rfl rfl);exact⟨⟨s,n⟩,rfl,by simp only[];omega,A6V hn⟩
theorem B7l{el:List D}(h:Z7 Tryz.prog 25 el): ∃a:LinV,el=E4 a∧a8 a:=by
 have j:reachBytes=140737488351232:=rfl;obtain⟨ps,rfl,hl,hp⟩:=A15 Tryz.underlying25 h;obtain⟨r,u,x,rfl⟩:=B17 ps hl;obtain⟨es,rfl,he,g⟩:=B3M (e:=114) (by kernel_rfl) (hp 0 _ _ rfl rfl);obtain⟨k,rfl,hk⟩:=A14 (k:=.i64) (by kernel_rfl) (hp 1 _ _ rfl rfl);obtain⟨b,rfl⟩:=B4e (by kernel_rfl) (hp 2 _ _ rfl rfl);have m:Tryz.prog.cellsOf 114=2:=by kernel_rfl
 have o:Tryz.prog.bytesOf 114=24:=by kernel_rfl
 rw[o]at he;obtain⟨l,rfl,d⟩:=B3O (f:=Q7) (p:=fun t=>t.v.size≤140737488351232∧W3 t.c) es (fun y q=>B93 (g y q));rw[D6]at he;rw[m];exact⟨⟨l,k,b⟩,rfl,by simp only[];omega,fun t i=>(d t i).1,fun t i=>(d t i).2,A6V hk⟩
theorem B94{el:List D}(h:Z7 Tryz.prog 71 el): ∃t:VlV,el=vlC t∧(t.v.size≤140737488351232∧W3 t.n):=by
 have d:reachBytes=140737488351232:=rfl;obtain⟨ps,rfl,hl,hp⟩:=A15 Tryz.underlying71 h;obtain⟨e,g,rfl⟩:=B0u ps hl;obtain⟨s,rfl,hs⟩:=A6U (by kernel_rfl) (hp 0 _ _ rfl rfl);obtain⟨n,rfl,hn⟩:=A14 (k:=.i64) (by kernel_rfl) (hp 1 _ _ rfl rfl);exact⟨⟨s,n⟩,rfl,by simp only[];omega,A6V hn⟩
theorem B18{x:D}(h:A13 Tryz.prog 40 x): ∃l:List VlV,x= .sl 2 (Rw vlC l)∧A4a l:=by
 have i:reachBytes=140737488351232:=rfl;obtain⟨es,rfl,he,d⟩:=B7i (e:=71) (by kernel_rfl) h;have j:Tryz.prog.cellsOf 71=2:=by kernel_rfl
 have m:Tryz.prog.bytesOf 71=24:=by kernel_rfl
 rw[m]at he;obtain⟨l,rfl,hl⟩:=B3O (f:=vlC) (p:=fun t=>t.v.size≤140737488351232∧W3 t.n) es (fun y o=>B94 (d y o));rw[D6]at he;rw[j];exact⟨l,rfl,by omega,fun t g=>(hl t g).1,fun t g=>(hl t g).2⟩
open Go Go.Av Go.Lexs Go.Lin Go.Fo
theorem B4h{α :Type}: ∀(l:List α),l.length=5→∃a b c d e,l= [a,b,c,d,e]
 | [a,b,c,d,e],_=>⟨a,b,c,d,e,rfl⟩
 | [],h=>by cases h
 | [_],h=>by cases h
 | [_,_],h=>by cases h
 | [_,_,_],h=>by cases h
 | [_,_,_,_],h=>by cases h
 |_::_::_::_::_::_::_,h=>by simp at h
def FmD(ds:List D):Prop:=∃f,ds=C0 f∧FmFit f
def C8l(ds:List D):Prop:=∃l,ds= [.sl 7 (Rw C0 l)]∧l.length≤1466015503658∧∀k∈l,FmFit k
theorem B19{t:TypeId}{ds:List D}(h:Z7 Tryz.prog t ds):(t=28→FmD ds)∧(t=26→C8l ds):=by
 have m:reachBytes=140737488351232:=rfl;have e:Tryz.prog.underlying 28=_:=Tryz.underlying28;have g:Tryz.prog.underlying 26=some (.slice 28):=by kernel_rfl
 have q:Tryz.prog.cellsOf 28=7:=by kernel_rfl
 have r:Tryz.prog.bytesOf 28=96:=by kernel_rfl
 induction h with
 |bool b h=>exact⟨(by rintro rfl;rw[e]at h;cases h),(by rintro rfl;rw[g]at h;cases h)⟩
 |int n h hw=>exact⟨(by rintro rfl;rw[e]at h;cases h),(by rintro rfl;rw[g]at h;cases h)⟩
 |str s h hs=>exact⟨(by rintro rfl;rw[e]at h;cases h),(by rintro rfl;rw[g]at h;cases h)⟩
 |sl es h hl he i=>
  refine⟨(by rintro rfl;rw[e]at h;cases h),?_⟩;rintro rfl;rw[g]at h;cases h;rw[r]at hl;obtain⟨l,rfl,d⟩:=B3O (f:=C0) (p:=FmFit) es (fun y u=>(i y u).1 rfl);rw[D6]at hl;rw[q];exact⟨l,rfl,by omega,d⟩
 |struct ps h hl hp i=>
  refine⟨?_,(by rintro rfl;rw[g]at h;cases h)⟩;rintro rfl;rw[e]at h;cases h;obtain⟨z,A,C,G,I,rfl⟩:=B4h ps hl;obtain⟨o,rfl,ho⟩:=A14 (k:=.i64) (by kernel_rfl) (hp 0 _ _ rfl rfl);obtain⟨n,rfl,hn⟩:=A14 (k:=.i64) (by kernel_rfl) (hp 1 _ _ rfl rfl);obtain⟨a,rfl,x⟩:=B7l (hp 2 _ _ rfl rfl);obtain⟨s,rfl,hs⟩:=A6U (by kernel_rfl) (hp 3 _ _ rfl rfl);obtain⟨l,rfl,j,d⟩:=(i 4 _ _ rfl rfl).2 rfl;refine⟨.mk o n a s l,?_,.mk _ _ _ _ _ (A6V ho) (A6V hn) x (by omega) j d⟩;rw[N3];rfl
theorem B2A{x:D}(h:A13 Tryz.prog 28 x): ∃f:Fm,x= .agg (C0 f)∧FmFit f:=by
 obtain⟨ds,rfl,hv⟩:=A8r Tryz.underlying28 h;obtain⟨f,rfl,d⟩:=(B19 hv).1 rfl;exact⟨f,rfl,d⟩
theorem B3P:plainB Tryz.prog [28,26,22,25,114,23,71,40,4,3,9]=true:=by kernel_rfl
theorem B95:laidOutB Tryz.pinned.checked.prog=true:=by kernel_rfl
theorem B7m:mapsRowed Tryz.pinned.checked.prog=true:=by kernel_rfl
theorem B7n:Tryz.pinned.checked.prog.stopsHeard=true:=by kernel_rfl
theorem C3g:Tryz.pinned.checked.prog.mayEnter=true:=by kernel_rfl
end Go.Proofs.YtibphjonmikciaaGreatDoor
namespace Go.Proofs.YtibphjonmikciaaGreatDoor.formulaOpposite
open Go Go.Av Go.Lexs Go.Lin Go.Fo Go.ChangeShapes Go.WideShapes Go.RowKit
theorem lifted(os:Os)(e:os.Started)(H:Type)(enc:TypeId×Value→H):
  ReturnsInHanded {} Tryz.checked os 10 .any (fun w args=>(Rows.formulaOppositeSpec.pre enc Tryz.prog Tryz.f10 Rows.formulaOppositeRow.domain false w args∧laidMetH Tryz.prog Rows.formulaOppositeRow.laid w)∧sizedMet enc Tryz.prog Tryz.f10 (OpenSpec.ofChange Rows.formulaOppositeSpec) false w args)
   (Rows.formulaOppositeSpec.post enc Tryz.prog Tryz.f10 false true false false):=by
 refine returnsInHanded_of_change_and (C:=Tryz.checked) (X:=fun w _=>laidMetH Tryz.prog Rows.formulaOppositeRow.laid w) (fun _ _ _ G h=>h.of_heap G) own e (by kernel_rfl) Tryz.func10
  (ChangeSpec.witness_shaped (enc:=enc) (C:=Tryz.checked) (os:=os) (X:=fun w _=>laidMetH Tryz.prog Rows.formulaOppositeRow.laid w) false (World.laidAll Tryz.prog os Rows.formulaOppositeRow.laid) #[.agg #[.int .i64 0,.int .i64 0,.slice none 0 0,.int .i64 0,.bool false,.string ⟨#[]⟩,.slice none 0 0],.slice none 0 0] 8 (World.laidAll_os _ _ _)
   (World.shaped_of_ZipB (by kernel_rfl) (by kernel_rfl)) (by kernel_rfl) (by kernel_rfl) (by kernel_rfl)
   (by rw[MakeChecks.laidMetH_plain _ _ _ (by kernel_rfl)];exact laidMet_laidAll _ (by kernel_rfl) (by kernel_rfl))) ?_
 intro W base args ds gs u g z _ hsz A _;rw[MakeChecks.laidMetH_plain _ _ _ (by kernel_rfl)]at A;obtain⟨m,o,I⟩:=B7k A (by simp[Rows.formulaOppositeRow]) (by simp[Rows.formulaOppositeRow]) (by simp[Rows.formulaOppositeRow]);have x:=z;obtain⟨p,q,r,J,_,_,_⟩:=z;rw[Tryz.params10]at r g hsz;obtain⟨v0,v1,d0,d1,p0,p1,rfl,rfl,rfl,L,h1⟩:=trodAll_two r;obtain⟨rfl,rfl⟩:=trodVars_none J;obtain⟨x0,M,O⟩:=B0t B3P (A4R m o) (by simp) (g 0 _ _ rfl rfl) L (W0 hsz 0 _ _ rfl rfl);obtain⟨x1,T,U⟩:=B0t B3P (A4R m o) (by simp) (g 1 _ _ rfl rfl) h1 (W0 hsz 1 _ _ rfl rfl);obtain⟨f,rfl,V⟩:=B2A M;obtain⟨vs,rfl,y⟩:=B18 T;have Y:reachBytes=140737488351232:=rfl;refine B4f B92 (by kernel_rfl) rfl (tb:=4) (by kernel_rfl) (by kernel_rfl) rfl x (A8t m o) (A4R m o) I [.agg (C0 f),.sl 2 (Rw vlC vs)] rfl (fun i d j=>?_) (fun Q hQ=>B7g f vs V y _ (B4g m o) hQ)
 match i,j with
 |0,j=>simp at j;subst j;exact O
 |1,j=>simp at j;subst j;exact U
 |i+2,j=>simp at j
set_option maxHeartbeats 4000000 in
theorem facts:joinedFacts Tryz.pinned.checked.prog 10 Tryz.f10 Rows.formulaOppositeSpec Rows.formulaOppositeRow=true:=by
 unfold joinedFacts;simp only[C92];repeat' (refine C9p ?_ ?_)
 all_goals first
  |with_reducible exact B95
  |with_reducible exact B7m
  |with_reducible exact B7n
  |with_reducible exact C3g
  |(as_aux_lemma=>kernel_rfl)
theorem said:Rows.FormulaOppositeSaid:=
 OpenClaim.holds_of_wide 10 Tryz.f10 rfl rfl rfl rfl rfl rfl rfl ⟨rfl,rfl,rfl,rfl,rfl⟩ rfl rfl rfl rfl rfl (by kernel_rfl) Tryz.func10 facts
  (C9q (by kernel_rfl)) (by unfold Func.isWrapper;first|(rw[if_pos (by decide+kernel)];kernel_rfl)|(rw[if_neg (by decide+kernel)];exact⟨rfl,rfl⟩))
  (fun os d H enc _=>lifted os d H enc)
theorem plain(f:FuncId)(fn:Func)(g:Tryz.pinned.checked.prog.funcNamed "voussoir/voussoirlaw20.FormulaOpposite" =some f)(e:Tryz.pinned.checked.prog.funcs[f]? =some fn):
  true=Tryz.pinned.checked.prog.looks []∧∀(j:Nat) t,fn.params[j]? =some t→Tryz.pinned.checked.prog.wantsStandIn t=false:=by
 obtain rfl:f=10:=Option.some.inj ((show Tryz.prog.funcNamed "voussoir/voussoirlaw20.FormulaOpposite" =some 10 by kernel_rfl).symm.trans g) |>.symm;obtain rfl:fn=Tryz.f10:=(Option.some.inj (Tryz.func10.symm.trans e)).symm;refine⟨by kernel_rfl,fun j t h=>?_⟩;have d:((Tryz.f10.params.toList).all fun u=> !Tryz.prog.wantsStandIn u)=true:=by kernel_rfl
 have:=D0Q.1 d t (by rw[D0U];exact Array.mem_of_getElem? h);exact(by simpa using this:Tryz.prog.wantsStandIn t=false)
theorem card:Rows.FormulaOppositeCardSaid:=
 Claim7.holds_tied_plain_at .later [] _ _ _ _ said (fun _ h=>by cases h) (by kernel_rfl) (fun _ h=>by cases h) formulaOpposite_row_tie rfl ⟨rfl,rfl⟩ (by kernel_rfl) rfl plain (by kernel_rfl)
end Go.Proofs.YtibphjonmikciaaGreatDoor.formulaOpposite
namespace Go.Proofs.YtibphjonmikciaaGreatDoor
theorem formulaOpposite_holds:Rows.FormulaOppositeCardSaid:=formulaOpposite.card
end Go.Proofs.YtibphjonmikciaaGreatDoor
end
