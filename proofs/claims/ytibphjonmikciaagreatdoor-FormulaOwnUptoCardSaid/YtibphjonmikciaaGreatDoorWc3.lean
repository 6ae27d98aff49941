/- Part of the proof: what the last text builds on. No condition stands here. -/
import Derived.Test.YtibphjonmikciaaGreatDoorProg
import Derived.Test.YtibphjonmikciaaGreatDoorRows
import Derived.Test.YtibphjonmikciaaGreatDoorCards
import Derived.Test.YtibphjonmikciaaGreatDoorTie
import Derived.Test.YtibphjonmikciaaGreatDoorWc2
set_option linter.unusedSimpArgs false
set_option linter.unusedVariables false
set_option maxRecDepth 20000
namespace Go.Av
inductive Loose:D→Prop
 |flat (d:D) (h:A7Q d=true):Loose d
 |nilsl:Loose .nilsl
 |sl (sz:Nat):Loose (.sl sz [])
 |vec (b sz lo n:Nat):Loose (.vec b sz lo n)
 |agg (cs:List D) (h: ∀d∈cs,Loose d):Loose (.agg cs)
 |tuple (cs:List D) (h: ∀d∈cs,Loose d):Loose (.tuple cs)
theorem Loose.R{w:World}{H H':Heap}{d:D}(h:Loose d): ∀{v:Value},R w H d v→R w H' d v:=by
 induction h with
 |flat d h=>exact fun hr=>B6Q h hr
 |nilsl=>intro v hr;cases hr;exact .nilsl
 |sl sz=>
  intro v hr;cases hr with
  |sl0 _ a cap=>exact .sl0 _ a cap
  |sl _ _ b off cap u=>exact .sl0 _ _ _
 |vec b sz lo n=>
  intro v hr;cases hr with
  |vec _ _ _ _ cap T m hb hs hsz hn=>exact .vec b sz lo n cap T m hb hs hsz hn
  |vec0 _ _ _ off=>exact .vec0 _ _ _ _
 |agg cs h j=>
  intro v hr;cases hr with
  |agg _ vs hl h1 hr=>exact .agg cs vs hl h1 fun i d hd=>j d (D1o hd) (hr i d hd)
 |tuple cs h j=>
  intro v hr;cases hr with
  |tuple _ vs hl hr=>exact .tuple cs vs hl fun i d hd=>j d (D1o hd) (hr i d hd)
def LooseO:Obj→Prop
 | .vec _ es=>∀e∈es,∀d∈e,Loose d
 |_=>False
theorem LooseO.rw{o:Obj}(h:LooseO o):o.rw=true:=by cases o<;>first|rfl|cases h
theorem LooseO.ok{w:World}{H H':Heap}{b:Nat}{o:Obj}(h:LooseO o)(k:ObjOk w H b o):ObjOk w H' b o:=by
 cases o with
 |vec sz es=>
  obtain⟨c,T,lo,p,q,r,u,x,y,m⟩:=k;exact⟨c,T,lo,p,q,r,u,x,y,fun i e j d he hd=>⟨(m i e j d he hd).1,(h e (D1o he) d (D1o hd)).R (m i e j d he hd).2⟩⟩
 |_=>cases h
def A6O(H H1:Heap):Heap:=fun k=>match H k with
 |some o=>some o
 |none=>H1 k
theorem A4T{H i:Heap}{k:Nat}{o:Obj}(h:H k=some o):A6O H i k=some o:=by unfold A6O;rw[h]
theorem A2S{H i:Heap}{k:Nat}(h:H k=none):A6O H i k=i k:=by unfold A6O;rw[h]
theorem A9Y{P:Program}{f:Nat}{args args':List D}{H:Heap}{Q:D→Heap→Prop}(hl:args.length=args'.length)(hv: ∀(i:Nat) d d',args[i]? =some d→args'[i]? =some d'→View H d d')
  (h:ACalls P f args' (roH H) (fun d H1=>Loose d∧(∀k o,H1 k=some o→roH H k=some o∨LooseO o)∧((∀k o,H1 k=some o→roH H k=none→H k=none)→Q d (A6O H H1)))):ACalls P f args H Q:=by
 refine⟨h.1,fun w vs h1 G j=>?_⟩;refine(h.2 w vs (by omega) (fun i d' m=>?_) (j.less (A2z H))).mono fun e w' ⟨v,he,hp⟩=>⟨v,he,?_⟩
 ·obtain⟨d,hd⟩:=E7 hl m;exact(hv i d d' hd m).R j (G i d hd)
 ·obtain⟨d,H1,hr,y,hx,A,z,q,hq⟩:=hp;have r: ∀k o,H1 k=some o→roH H k=none→H k=none:=fun k o hk hn=>by
   cases ho:H k with
   |none=>rfl
   |some p=>
    have h5:=A k (j.lt ho) (d9 H k);rcases q k o hk with g|g
    ·rw[hn]at g;cases g
    ·rw[I1 hk,g.rw]at h5;cases h5
  have u:Ext H w w':=⟨hx.os,hx.tape,hx.output,hx.size,fun k hk _=>hx.block k hk (d9 H k),hx.shape⟩
  have x:From w H (A6O H H1):=fun k hk hn=>by
   cases ho:H k with
   |none=>rw[l9 (A2S ho)];exact A k hk (d9 H k)
   |some o=>rw[I1 (A4T ho),←I1 ho];exact hn
  refine⟨d,A6O H H1,z.R hr,fun b o hb=>?_,u,x,hq r⟩;cases ho:H b with
  |some p=>
   rw[A4T ho]at hb;obtain rfl:p=o:=Option.some.inj hb;exact(j b _ ho).mono u x (hx.block b (j.lt ho) (d9 H b))
  |none=>
   rw[A2S ho]at hb;rcases q b o hb with g|g
   ·have:=A2z H b o g;rw[ho]at this;cases this
   ·exact g.ok (y b o hb)
end Go.Av
namespace Go.Fo
open Go Go.Av Go.Lexs Go.Lin
def SlAt(H:Heap)(sz:Nat)(es:List (List D))(d:D)(bs:List Nat):Prop:=
 (es= []∧bs= []∧(d= .nilsl∨d= .sl sz []))∨∃b,d= .vec b sz 0 es.length∧H b=some (.vec sz es)∧bs= [b]
def Tr(H:Heap):Fm→List D→List Nat→Prop
 | .mk o n l s ks,d,B=>∃td kd tb kb rows bs,d= [.int .i64 o,.int .i64 n,td,.int .i64 l.k,.bool l.e,.str s,kd]∧SlAt H 2 (Rw J7 l.t) td tb∧SlAt H 7 rows kd kb∧trK ks rows bs∧B=tb++(kb++bs)∧B.Nodup
where trK:List Fm→List (List D)→List Nat→Prop
 | [],rows,bs=>rows= []∧bs= []
 |f::fs,rows,bs=>∃r rs b b2,rows=r::rs∧bs=b++b2∧Tr H f r b∧trK fs rs b2
theorem SlAt.mono{H H':Heap}{sz:Nat}{es:List (List D)}{d:D}{bs:List Nat}(h:SlAt H sz es d bs)(hb: ∀b∈bs,H' b=H b):SlAt H' sz es d bs:=by
 rcases h with⟨h1,i,j⟩|⟨b,h1,i,rfl⟩
 ·exact .inl ⟨h1,i,j⟩
 ·exact .inr ⟨b,h1,by rw[hb b (D1i.2 rfl)];exact i,rfl⟩
theorem A8q{H:Heap}: ∀{ks:List Fm} {rows:List (List D)} {bs:List Nat},Tr.trK H ks rows bs→rows.length=ks.length:=by
 intro ks
 induction ks with
 |nil=>intro rows bs h;rw[Tr.trK]at h;rw[h.1];rfl
 |cons f fs i=>
  intro rows bs h;rw[Tr.trK]at h;obtain⟨r,m,b,o,rfl,rfl,_,j⟩:=h;simp only[D1M,i j]
theorem B6R{H:Heap}{f:Fm}{r:List D}{b:List Nat}(i:Tr H f r b): ∀{ks:List Fm} {rows:List (List D)} {bs:List Nat},Tr.trK H ks rows bs→Tr.trK H (ks++[f]) (rows++[r]) (bs++b):=by
 intro ks
 induction ks with
 |nil=>intro rows bs h;rw[Tr.trK]at h;obtain⟨rfl,rfl⟩:=h;exact⟨r,[],b,[],rfl,by simp,i,rfl,rfl⟩
 |cons g fs j=>
  intro rows bs h;rw[Tr.trK]at h;obtain⟨m,o,p,q,rfl,rfl,u,x⟩:=h;exact⟨m,o++[r],p,q++b,rfl,by simp,u,j x⟩
theorem B6S{H:Heap}{p:Fm→List D→List Nat→Prop}: ∀{ks:List Fm} {rows:List (List D)} {bs:List Nat},Tr.trK H ks rows bs→(∀k∈ks,∀r b,Tr H k r b→(∀x∈b,x∈bs)→r∈rows→p k r b)→∀i (h:i<ks.length) (g:i<rows.length),∃b,(∀x∈b,x∈bs)∧Tr H ks[i] rows[i] b∧p ks[i] rows[i] b:=by
 intro ks
 induction ks with
 |nil=>intro rows bs h hp i j;simp at j
 |cons f fs y=>
  intro rows bs h hp i j z;rw[Tr.trK]at h;obtain⟨r,J,b,M,rfl,rfl,u,A⟩:=h;cases i with
  |zero=>exact⟨b,fun x hx=>List.mem_append_left _ hx,u,hp f (D1S ..) r b u (fun x hx=>List.mem_append_left _ hx) (D1S ..)⟩
  |succ i=>
   obtain⟨c,m,o,q⟩:=y A (fun k hk r b h5 G I=>hp k (D1Z _ hk) r b h5 (fun x hx=>List.mem_append_right _ (G x hx)) (D1Z _ I)) i (by simpa using j) (by simpa using z);exact⟨c,fun x hx=>List.mem_append_right _ (m x hx),o,q⟩
theorem Tr.mono{H H':Heap}: ∀{f:Fm} {d:List D} {B:List Nat},Tr H f d B→(∀b∈B,H' b=H b)→Tr H' f d B:=by
 intro f
 induction f using O1 with
 |h o n l s ks y=>
  intro d B h hb;rw[Tr]at h;obtain⟨td,kd,tb,kb,rows,bs,h1,z,i,j,rfl,A⟩:=h;have key: ∀(m:List Fm),(∀k∈m,k∈ks)→∀rows bs,Tr.trK H m rows bs→(∀b∈bs,H' b=H b)→Tr.trK H' m rows bs:=by
   intro m
   induction m with
   |nil=>intro _ rows bs h _;exact h
   |cons f fs p=>
    intro hm rows bs h hb;rw[Tr.trK]at h;obtain⟨r,q,b,u,rfl,rfl,i,j⟩:=h;exact⟨r,q,b,u,rfl,rfl,y f (hm f (D1S ..)) i fun x hx=>hb x (List.mem_append_left _ hx),p (fun k hk=>hm k (D1Z _ hk)) q u j fun x hx=>hb x (List.mem_append_right _ hx)⟩
  exact⟨td,kd,tb,kb,rows,bs,h1,z.mono fun b hx=>hb b (List.mem_append_left _ hx),i.mono fun b hx=>hb b (List.mem_append_right _ (List.mem_append_left _ hx)),key ks (fun _ h=>h) rows bs j fun b hx=>hb b (List.mem_append_right _ (List.mem_append_right _ hx)),rfl,A⟩
theorem A1y{H H':Heap}: ∀{ks:List Fm} {rows:List (List D)} {bs:List Nat},Tr.trK H ks rows bs→(∀b∈bs,H' b=H b)→Tr.trK H' ks rows bs:=by
 intro ks
 induction ks with
 |nil=>intro rows bs h _;exact h
 |cons f fs i=>
  intro rows bs h hb;rw[Tr.trK]at h;obtain⟨r,j,b,m,rfl,rfl,o,p⟩:=h;exact⟨r,j,b,m,rfl,rfl,o.mono fun x hx=>hb x (List.mem_append_left _ hx),i p fun x hx=>hb x (List.mem_append_right _ hx)⟩
structure TrN(H:Heap)(o n:Int)(l:LinV)(s:ByteArray)(ks:List Fm)(d:List D)(B:List Nat) where
 td:D
 kd:D
 tb:List Nat
 kb:List Nat
 rows:List (List D)
 bs:List Nat
 hd:d= [.int .i64 o,.int .i64 n,td,.int .i64 l.k,.bool l.e,.str s,kd]
 ht:SlAt H 2 (Rw J7 l.t) td tb
 hk:SlAt H 7 rows kd kb
 hr:Tr.trK H ks rows bs
 hB:B=tb++(kb++bs)
 nd:B.Nodup
theorem B9j(t:LTm): ∀d∈J7 t,Loose d:=fun d hd=>by
 simp only[J7,D1j,D1k,or_false]at hd;rcases hd with rfl|rfl<;>exact .flat _ rfl
theorem SlAt.loose{H:Heap}{sz:Nat}{es:List (List D)}{d:D}{bs:List Nat}(h:SlAt H sz es d bs):Loose d:=by
 rcases h with⟨_,_,rfl|rfl⟩|⟨b,rfl,_⟩
 ·exact .nilsl
 ·exact .sl _
 ·exact .vec _ _ _ _
theorem Tr.loose{H:Heap}: ∀{f:Fm} {d:List D} {B:List Nat},Tr H f d B→(∀x∈d,Loose x)∧∀b∈B,∃o,H b=some o∧LooseO o:=by
 intro f
 induction f using O1 with
 |h o n l s ks u=>
  intro d B h;rw[Tr]at h;obtain⟨td,kd,tb,kb,rows,bs,rfl,q,i,j,rfl,T⟩:=h;have key: ∀(m:List Fm),(∀k∈m,k∈ks)→∀rows bs,Tr.trK H m rows bs→(∀r∈rows,∀x∈r,Loose x)∧∀b∈bs,∃o,H b=some o∧LooseO o:=by
   intro m
   induction m with
   |nil=>intro _ rows bs h;rw[Tr.trK]at h;obtain⟨rfl,rfl⟩:=h;exact⟨by simp,by simp⟩
   |cons f fs p=>
    intro hm rows bs h;rw[Tr.trK]at h;obtain⟨r,y,b,z,rfl,rfl,i,j⟩:=h;obtain⟨A,G⟩:=u f (hm f (D1S ..)) i;obtain⟨I,J⟩:=p (fun k hk=>hm k (D1Z _ hk)) y z j;exact⟨fun x hx=>(D1j.1 hx).elim (fun e=>by subst e;exact A) (I x),fun x hx=>(D1h.1 hx).elim (G x) (J x)⟩
  obtain⟨M,O⟩:=key ks (fun _ h=>h) rows bs j;refine⟨fun x hx=>?_,fun b hb=>?_⟩
  ·simp only[D1j,D1k,or_false]at hx;rcases hx with rfl|rfl|rfl|rfl|rfl|rfl|rfl
   ·exact .flat _ rfl
   ·exact .flat _ rfl
   ·exact q.loose
   ·exact .flat _ rfl
   ·exact .flat _ rfl
   ·exact .flat _ rfl
   ·exact i.loose
  ·rcases D1h.1 hb with g|g
   ·rcases q with⟨_,rfl,_⟩|⟨c,_,hc,rfl⟩
    ·cases g
    ·rw[D1i]at g;subst g;refine⟨_,hc,fun e he x hx=>?_⟩;unfold Rw at he;obtain⟨t,_,rfl⟩:=D2F.1 he;exact B9j t x hx
   ·rcases D1h.1 g with g|g
    ·rcases i with⟨_,rfl,_⟩|⟨c,_,hc,rfl⟩
     ·cases g
     ·rw[D1i]at g;subst g;exact⟨_,hc,M⟩
    ·exact O b g
theorem A8r{α :Type}(f: α →List D)(l:List α)(i:Nat)(e:List D)(h:(Rw f l)[i]? =some e): ∃j:i<l.length,e=f l[i]:=by
 unfold Rw at h;rw[D1e]at h;cases hx:l[i]? with
 |none=>rw[hx]at h;cases h
 |some x=>
  rw[hx]at h;obtain⟨j,rfl⟩:=D1R.1 hx;exact⟨j,by cases h;rfl⟩
theorem Tr.len{H:Heap}: ∀{f:Fm} {d:List D} {B:List Nat},Tr H f d B→d.length=7:=by
 intro f d B h;obtain⟨o,n,l,s,ks⟩:=f;rw[Tr]at h;obtain⟨td,kd,tb,kb,rows,bs,rfl,_⟩:=h;rfl
theorem Tr.view{H:Heap}: ∀{f:Fm} {d:List D} {B:List Nat},Tr H f d B→∀(i:Nat) x x',d[i]? =some x→(C1 f)[i]? =some x'→View H x x':=by
 intro f
 induction f using O1 with
 |h o n l s ks A=>
  intro d B h;rw[Tr]at h;obtain⟨td,kd,tb,kb,rows,bs,rfl,m,u,r,rfl,I⟩:=h;have e:C1 (.mk o n l s ks)= [.int .i64 o,.int .i64 n,.sl 2 (Rw J7 l.t),.int .i64 l.k,.bool l.e,.str s,.sl 7 (Rw C1 ks)]:=I6 _;rw[e];have v2:View H td (.sl 2 (Rw J7 l.t)):=by
   rcases m with⟨g,_,rfl|rfl⟩|⟨b,rfl,hb,_⟩
   ·rw[g];exact .nil 2
   ·rw[g];exact .same _
   ·exact .vec b 2 _ _ _ hb rfl rfl (fun i e e' h1 m=>by rw[h1]at m;cases m;rfl) (fun i e e' j d d' h1 m u r=>by rw[h1]at m;cases m;rw[u]at r;cases r;exact .same _)
  have hl:=A8q r;have v3:View H kd (.sl 7 (Rw C1 ks)):=by
   rcases u with⟨g,_,G⟩|⟨b,rfl,hb,_⟩
   ·have:ks= []:=D1f (by rw[←hl,g];rfl);subst this;rcases G with rfl|rfl
    ·exact .nil 7
    ·exact .same _
   ·have z:=B6S r (p:=fun _ _ _=>True) (fun _ _ _ _ _ _ _=>trivial);refine .vec b 7 _ _ _ hb rfl (by rw[D6];exact hl) (fun i e e' h1 m=>?_) (fun i e e' j d d' h1 m u r=>?_)
    ·obtain⟨y,rfl⟩:=D1R.1 h1;obtain⟨q,rfl⟩:=A8r C1 ks i e' m;obtain⟨b,_,ht,_⟩:=z i q y;rw[ht.len,I6];rfl
    ·obtain⟨y,rfl⟩:=D1R.1 h1;obtain⟨q,rfl⟩:=A8r C1 ks i e' m;obtain⟨b,_,ht,_⟩:=z i q y;exact A _ (D1V q) ht j d d' u r
  intro i x x' h1 m
  match i,h1,m with
  |0,h1,m=>cases h1;cases m;exact .same _
  |1,h1,m=>cases h1;cases m;exact .same _
  |2,h1,m=>cases h1;cases m;exact v2
  |3,h1,m=>cases h1;cases m;exact .same _
  |4,h1,m=>cases h1;cases m;exact .same _
  |5,h1,m=>cases h1;cases m;exact .same _
  |6,h1,m=>cases h1;cases m;exact v3
  |i+7,h1,m=>cases h1
theorem Tr.agg{H:Heap}{f:Fm}{d:List D}{B:List Nat}(h:Tr H f d B):View H (.agg d) (.agg (C1 f)):=.agg _ _ (by rw[h.len,I6];rfl) h.view
def TrQ(Q:D→Heap→Prop)(H:Heap)(f:Fm)(k:List D→D):Prop:=∀d B H1,Tr H1 f d B→(∀b∈B,H b=none)→(∀b,b∉B→H1 b=H b)→Q (k d) H1
theorem A8s{P:Program}{g:Nat}{args args':List D}{H:Heap}{Q:D→Heap→Prop}(f:Fm)(k:List D→D)(hk: ∀d,(∀x∈d,Loose x)→Loose (k d))(hl:args.length=args'.length)(hv: ∀(i:Nat) d d',args[i]? =some d→args'[i]? =some d'→View H d d')
  (h: ∀Q':D→Heap→Prop,TrQ Q' (roH H) f k→ACalls P g args' (roH H) Q') (hq:TrQ Q H f k):ACalls P g args H Q:=by
 refine A9Y hl hv (h _ fun d B r ht hB j=>?_);obtain⟨p,l2⟩:=ht.loose;refine⟨hk d p,fun b o hb=>?_,fun hn=>?_⟩
 ·by_cases hm:b∈B
  ·obtain⟨o',h1,q⟩:=l2 b hm;rw[h1]at hb;cases hb;exact .inr q
  ·rw[j b hm]at hb;exact .inl hb
 ·have m: ∀b∈B,H b=none:=fun b hb=>by
   obtain⟨o,h1,_⟩:=l2 b hb;exact hn b o h1 (hB b hb)
  refine hq d B _ (ht.mono fun b hb=>A2S (m b hb)) m fun b hb=>?_;cases ho:H b with
  |some o=>rw[A4T ho]
  |none=>
   rw[A2S ho,j b hb];cases hr:roH H b with
   |none=>rfl
   |some o=>have:=A2z H b o hr;rw[ho]at this;cases this
theorem SlAt.rr{w:World}{H H0:Heap}{sz:Nat}{es es':List (List D)}{d:D}{bs:List Nat}(hs:Sat H w)(h:SlAt H sz es d bs)(hb: ∀b∈bs,H0.held b=false)(hl:es.length=es'.length)
  (h1: ∀(i:Nat) (e e':List D),es[i]? =some e→es'[i]? =some e'→e.length=e'.length∧∀(j:Nat) (x x':D) (v:Value),e[j]? =some x→e'[j]? =some x'→x.one=true→R w H x v→x'.one=true∧R w H0 x' v)
  {v:Value} (hr:R w H d v):R w H0 (.sl sz es') v:=by
 rcases h with⟨g,_,I⟩|⟨b,rfl,r,rfl⟩
 ·have:es'= []:=D1f (by rw[←hl,g];rfl);subst this;rcases I with rfl|rfl
  ·cases hr;exact .sl0 _ _ _
  ·cases hr<;>exact .sl0 _ _ _
 ·have u:=hs.lt r;obtain⟨c,T,x,y,J,_,W,X,M,G⟩:=hs b _ r;generalize hn:es.length=n at hr;cases hr with
  |vec0 b sz lo off=>
   have:es'= []:=D1f (by omega);subst this;exact .sl0 _ _ _
  |vec _ _ _ _ cap Y m O U hsz V=>
   rw[←hn,hl];refine .sl sz es' b _ cap (fun i j=>c.getD (i*sz+j) Go.undef) u (hb b (D1i.2 rfl)) (fun i e' o=>?_) (by omega) (fun i j hi hj=>?_) (fun i e' j d' o p=>?_) (fun i e' j d' o p=>?_)
   ·obtain⟨e,he⟩:=E7 hl o;rw[←(h1 i e e' he o).1];exact M i e he
   ·have h5:(i+1)*sz≤es.length*sz:=D1x _ (by omega);rw[Nat.add_mul,Nat.one_mul]at h5;rw[Nat.zero_mul,Nat.zero_add,R3 J];have hsz:i*sz+j<c.size:=by omega
    simp[hsz]
   ·obtain⟨e,he⟩:=E7 hl o;obtain⟨q,hx⟩:=h1 i e e' he o;obtain⟨d,hd⟩:=E7 q p;obtain⟨z,A⟩:=G i e j d he hd;exact(hx j d d' _ hd p z A).1
   ·obtain⟨e,he⟩:=E7 hl o;obtain⟨q,hx⟩:=h1 i e e' he o;obtain⟨d,hd⟩:=E7 q p;obtain⟨z,A⟩:=G i e j d he hd;exact(hx j d d' _ hd p z A).2
theorem Tr.rr{w:World}{H H0:Heap}(hs:Sat H w)(r:H0.Le H): ∀{f:Fm} {d:List D} {B:List Nat},Tr H f d B→(∀b∈B,H0.held b=false)→∀(j:Nat) (x x':D) (v:Value),d[j]? =some x→(C1 f)[j]? =some x'→x.one=true→R w H x v→x'.one=true∧R w H0 x' v:=by
 intro f
 induction f using O1 with
 |h o n l s ks G=>
  intro d B h hB;rw[Tr]at h;obtain⟨td,kd,tb,kb,rows,bs,rfl,I,J,A,rfl,T⟩:=h;have e:C1 (.mk o n l s ks)= [.int .i64 o,.int .i64 n,.sl 2 (Rw J7 l.t),.int .i64 l.k,.bool l.e,.str s,.sl 7 (Rw C1 ks)]:=I6 _;rw[e];have hl:=A8q A;have M:=B6S A (p:=fun _ _ _=>True) (fun _ _ _ _ _ _ _=>trivial);have v2: ∀v,R w H td v→R w H0 (.sl 2 (Rw J7 l.t)) v:=fun v hr=>I.rr hs (fun b hb=>hB b (List.mem_append_left _ hb)) rfl (fun i e e' m q=>by
   rw[m]at q;cases q;exact⟨rfl,fun j x x' v hx u h1 hr=>by rw[hx]at u;cases u;exact⟨h1,hr.less r⟩⟩) hr
  have v3: ∀v,R w H kd v→R w H0 (.sl 7 (Rw C1 ks)) v:=fun v hr=>J.rr hs (fun b hb=>hB b (List.mem_append_right _ (List.mem_append_left _ hb))) (by rw[D6];exact hl) (fun i e e' m q=>by
   obtain⟨O,rfl⟩:=D1R.1 m;obtain⟨y,rfl⟩:=A8r C1 ks i e' q;obtain⟨b,z,ht,_⟩:=M i y O;exact⟨by rw[ht.len,I6];rfl,G _ (D1V y) ht fun x hx=>hB x (List.mem_append_right _ (List.mem_append_right _ (z x hx)))⟩) hr
  intro j x x' v m q h1 hr
  match j,m,q with
  |0,m,q=>cases m;cases q;exact⟨h1,hr.less r⟩
  |1,m,q=>cases m;cases q;exact⟨h1,hr.less r⟩
  |2,m,q=>cases m;cases q;exact⟨rfl,v2 v hr⟩
  |3,m,q=>cases m;cases q;exact⟨h1,hr.less r⟩
  |4,m,q=>cases m;cases q;exact⟨h1,hr.less r⟩
  |5,m,q=>cases m;cases q;exact⟨h1,hr.less r⟩
  |6,m,q=>cases m;cases q;exact⟨rfl,v3 v hr⟩
  |j+7,m,q=>cases m
theorem Tr.aggr{w:World}{H H0:Heap}(hs:Sat H w)(m:H0.Le H){f:Fm}{d:List D}{B:List Nat}(h:Tr H f d B)(hB: ∀b∈B,H0.held b=false){v:Value}(hr:R w H (.agg d) v):R w H0 (.agg (C1 f)) v:=by
 have hl:d.length=(C1 f).length:=by rw[h.len,I6];rfl
 cases hr with
 |agg _ vs o ho hr=>
  refine .agg _ vs (by omega) (fun i d' j=>?_) (fun i d' j=>?_)
  ·obtain⟨x,hx⟩:=E7 hl j;exact(h.rr hs m hB i x d' _ hx j (ho i x hx) (hr i x hx)).1
  ·obtain⟨x,hx⟩:=E7 hl j;exact(h.rr hs m hB i x d' _ hx j (ho i x hx) (hr i x hx)).2
theorem C05{Q:D→Heap→Prop}{H H0:Heap}{f:Fm}{d:List D}{B:List Nat}{x:D}(h:Tr H f d B)(hB: ∀b∈B,H0 b=none)(m:H0.Le H)(hq:Q (.tuple [.agg (C1 f),x]) H0):Fin Q (.tuple [.agg d,x]) H:=by
 unfold Av.Fin;refine⟨H0,_,fun w v hr hs=>⟨?_,hs.less m,fun k hk=>m.held hk⟩,hq⟩;cases hr with
 |tuple _ vs hl hr=>
  refine .tuple _ vs hl fun i d' j=>?_
  match i,j with
  |0,j=>cases j;exact h.aggr hs m (fun b hb=>G7 (hB b hb)) (hr 0 _ rfl)
  |1,j=>cases j;exact(hr 1 _ rfl).less m
  |i+2,j=>cases j
theorem A65{Q:D→Heap→Prop}{H:Heap}{f:Fm}{x:D}(h:Q (.tuple [.agg (C1 f),x]) H):TrQ (Fin Q) H f (fun d=>.tuple [.agg d,x]):=fun d B j ht hB i=>C05 ht hB (fun k o hk=>by
 rw[i k (fun hm=>by rw[hB k hm]at hk;cases hk)];exact hk) h
end Go.Fo
namespace Go.Proofs
open Go.Av
@[go_sem] theorem C58:A69 Tryz.prog 2=some .i64:=by kernel_rfl
@[go_sem] theorem C4q:C7 Tryz.prog 3= .int:=by kernel_rfl
@[go_sem] theorem C2h:F7 Tryz.prog 3=some (false,1):=by kernel_rfl
@[go_sem] theorem C59:A69 Tryz.prog 3=some .i64:=by kernel_rfl
@[go_sem] theorem C40:G4 Tryz.prog 3=some [.int .i64 0]:=by kernel_rfl
@[go_sem] theorem C55:A1h Tryz.prog 3=none:=by kernel_rfl
@[go_sem] theorem C4r:C7 Tryz.prog 4= .bool:=by kernel_rfl
@[go_sem] theorem C2i:F7 Tryz.prog 4=some (false,1):=by kernel_rfl
@[go_sem] theorem C41:G4 Tryz.prog 4=some [.bool false]:=by kernel_rfl
@[go_sem] theorem C43:Go.Av.A5u Tryz.prog 4=some (.bool false):=by kernel_rfl
@[go_sem] theorem C56:A1h Tryz.prog 4=none:=by kernel_rfl
@[go_sem] theorem C2j:F7 Tryz.prog 5=some (false,1):=by kernel_rfl
@[go_sem] theorem C4s:C7 Tryz.prog 9= .str:=by kernel_rfl
@[go_sem] theorem C2k:F7 Tryz.prog 9=some (false,1):=by kernel_rfl
@[go_sem] theorem C42:G4 Tryz.prog 9=some [.str ⟨#[]⟩]:=by kernel_rfl
@[go_sem] theorem C1R:F7 Tryz.prog 22=some (false,1):=by kernel_rfl
@[go_sem] theorem C2K:C7 Tryz.prog 23= .slice:=by kernel_rfl
@[go_sem] theorem C1S:F7 Tryz.prog 23=some (false,1):=by kernel_rfl
@[go_sem] theorem C2Y:G6 Tryz.prog 23=some (114,2,24):=by kernel_rfl
@[go_sem] theorem C2L:C7 Tryz.prog 25= .struct:=by kernel_rfl
@[go_sem] theorem C1T:F7 Tryz.prog 25=some (true,3):=by kernel_rfl
@[go_sem] theorem B8r:L5 Tryz.prog 25=some [(0,false,1),(1,false,1),(2,false,1)]:=by kernel_rfl
@[go_sem] theorem C2l:G4 Tryz.prog 25=some [.nilsl,.int .i64 0,.bool false]:=by kernel_rfl
@[go_sem] theorem C4t:A1h Tryz.prog 25=none:=by kernel_rfl
@[go_sem] theorem C2M:C7 Tryz.prog 26= .slice:=by kernel_rfl
@[go_sem] theorem C1U:F7 Tryz.prog 26=some (false,1):=by kernel_rfl
@[go_sem] theorem C2Z:G6 Tryz.prog 26=some (28,7,96):=by kernel_rfl
@[go_sem] theorem C2m:G4 Tryz.prog 26=some [.nilsl]:=by kernel_rfl
@[go_sem] theorem C2N:C7 Tryz.prog 28= .struct:=by kernel_rfl
@[go_sem] theorem C1V:F7 Tryz.prog 28=some (true,7):=by kernel_rfl
@[go_sem] theorem B8s:L5 Tryz.prog 28=some [(0,false,1),(1,false,1),(2,true,3),(5,false,1),(6,false,1)]:=by kernel_rfl
@[go_sem] theorem C2n:G4 Tryz.prog 28=some [.int .i64 0,.int .i64 0,.nilsl,.int .i64 0,.bool false,.str ⟨#[]⟩,.nilsl]:=by kernel_rfl
@[go_sem] theorem C4u:A1h Tryz.prog 28=none:=by kernel_rfl
@[go_sem] theorem C2O:C7 Tryz.prog 31= .slice:=by kernel_rfl
@[go_sem] theorem C1W:F7 Tryz.prog 31=some (false,1):=by kernel_rfl
@[go_sem] theorem C2a:G6 Tryz.prog 31=some (9,1,16):=by kernel_rfl
@[go_sem] theorem C2P:C7 Tryz.prog 40= .slice:=by kernel_rfl
@[go_sem] theorem C1X:F7 Tryz.prog 40=some (false,1):=by kernel_rfl
@[go_sem] theorem C2b:G6 Tryz.prog 40=some (71,2,24):=by kernel_rfl
@[go_sem] theorem C2Q:C7 Tryz.prog 71= .struct:=by kernel_rfl
@[go_sem] theorem C1Y:F7 Tryz.prog 71=some (true,2):=by kernel_rfl
@[go_sem] theorem B8t:L5 Tryz.prog 71=some [(0,false,1),(1,false,1)]:=by kernel_rfl
@[go_sem] theorem C57:A1D Tryz.prog 71=some [(0,.str),(1,.int)]:=by kernel_rfl
@[go_sem] theorem C2o:G4 Tryz.prog 71=some [.str ⟨#[]⟩,.int .i64 0]:=by kernel_rfl
@[go_sem] theorem C4v:A1h Tryz.prog 71=none:=by kernel_rfl
@[go_sem] theorem C2R:C7 Tryz.prog 72= .map:=by kernel_rfl
@[go_sem] theorem C1Z:F7 Tryz.prog 72=some (false,1):=by kernel_rfl
@[go_sem] theorem C2p:G4 Tryz.prog 72=some [.nilmap]:=by kernel_rfl
@[go_sem] theorem C4z:A3K Tryz.prog 72=some (9,4,.one .str):=by kernel_rfl
@[go_sem] theorem C4w:A1h Tryz.prog 72=none:=by kernel_rfl
@[go_sem] theorem C2S:C7 Tryz.prog 91= .slice:=by kernel_rfl
@[go_sem] theorem C2c:G6 Tryz.prog 91=some (72,1,8):=by kernel_rfl
@[go_sem] theorem C2T:C7 Tryz.prog 95= .slice:=by kernel_rfl
@[go_sem] theorem C2d:G6 Tryz.prog 95=some (5,1,1):=by kernel_rfl
@[go_sem] theorem C2q:G4 Tryz.prog 97=some [.nilp,.nilsl]:=by kernel_rfl
@[go_sem] theorem C4x:A1h Tryz.prog 97=some 97:=by kernel_rfl
@[go_sem] theorem C06:C7 Tryz.prog 103= .struct:=by kernel_rfl
@[go_sem] theorem B8h:L5 Tryz.prog 103=some [(0,false,1),(1,false,1)]:=by kernel_rfl
@[go_sem] theorem C1a:G4 Tryz.prog 103=some [.str ⟨#[]⟩,.bool false]:=by kernel_rfl
@[go_sem] theorem C07:C7 Tryz.prog 110= .slice:=by kernel_rfl
@[go_sem] theorem B8u:F7 Tryz.prog 110=some (false,1):=by kernel_rfl
@[go_sem] theorem C1J:G6 Tryz.prog 110=some (25,3,40):=by kernel_rfl
@[go_sem] theorem C1b:G4 Tryz.prog 110=some [.nilsl]:=by kernel_rfl
@[go_sem] theorem C08:C7 Tryz.prog 114= .struct:=by kernel_rfl
@[go_sem] theorem B8v:F7 Tryz.prog 114=some (true,2):=by kernel_rfl
@[go_sem] theorem B8i:L5 Tryz.prog 114=some [(0,false,1),(1,false,1)]:=by kernel_rfl
@[go_sem] theorem C4y:A1D Tryz.prog 114=some [(0,.str),(1,.int)]:=by kernel_rfl
@[go_sem] theorem C1c:G4 Tryz.prog 114=some [.str ⟨#[]⟩,.int .i64 0]:=by kernel_rfl
@[go_sem] theorem C2U:A1h Tryz.prog 114=none:=by kernel_rfl
@[go_sem] theorem C09:C7 Tryz.prog 150= .struct:=by kernel_rfl
@[go_sem] theorem B8w:F7 Tryz.prog 150=some (true,2):=by kernel_rfl
@[go_sem] theorem B8j:L5 Tryz.prog 150=some [(0,false,1),(1,false,1)]:=by kernel_rfl
@[go_sem] theorem C1d:G4 Tryz.prog 150=some [.nilsl,.nilmap]:=by kernel_rfl
@[go_sem] theorem C2V:A1h Tryz.prog 150=none:=by kernel_rfl
@[go_sem] theorem C2e:A69 Tryz.prog 163=some .u64:=by kernel_rfl
@[go_sem] theorem B8x:F7 Tryz.prog 194=some (false,1):=by kernel_rfl
@[go_sem] theorem C2f:A69 Tryz.prog 194=some .u32:=by kernel_rfl
@[go_sem] theorem C1e:G4 Tryz.prog 194=some [.int .u32 0]:=by kernel_rfl
@[go_sem] theorem C2g:A69 Tryz.prog 196=some .u64:=by kernel_rfl
@[go_sem] theorem C1A:C7 Tryz.prog 208= .slice:=by kernel_rfl
@[go_sem] theorem C1K:G6 Tryz.prog 208=some (110,1,24):=by kernel_rfl
@[go_sem] theorem C1B:C7 Tryz.prog 210= .slice:=by kernel_rfl
@[go_sem] theorem C1L:G6 Tryz.prog 210=some (26,1,24):=by kernel_rfl
@[go_sem] theorem C1C:C7 Tryz.prog 216= .slice:=by kernel_rfl
@[go_sem] theorem B8y:F7 Tryz.prog 216=some (false,1):=by kernel_rfl
@[go_sem] theorem C1M:G6 Tryz.prog 216=some (246,4,64):=by kernel_rfl
@[go_sem] theorem C1f:G4 Tryz.prog 216=some [.nilsl]:=by kernel_rfl
@[go_sem] theorem C1D:C7 Tryz.prog 219= .slice:=by kernel_rfl
@[go_sem] theorem C1N:G6 Tryz.prog 219=some (3,1,8):=by kernel_rfl
@[go_sem] theorem C1E:C7 Tryz.prog 240= .slice:=by kernel_rfl
@[go_sem] theorem B8z:F7 Tryz.prog 240=some (false,1):=by kernel_rfl
@[go_sem] theorem C1O:G6 Tryz.prog 240=some (244,2,32):=by kernel_rfl
@[go_sem] theorem C1F:C7 Tryz.prog 242= .slice:=by kernel_rfl
@[go_sem] theorem B80:F7 Tryz.prog 242=some (false,1):=by kernel_rfl
@[go_sem] theorem C1P:G6 Tryz.prog 242=some (194,1,4):=by kernel_rfl
@[go_sem] theorem C1G:C7 Tryz.prog 244= .struct:=by kernel_rfl
@[go_sem] theorem B81:F7 Tryz.prog 244=some (true,2):=by kernel_rfl
@[go_sem] theorem B8k:L5 Tryz.prog 244=some [(0,false,1),(1,false,1)]:=by kernel_rfl
@[go_sem] theorem C1g:G4 Tryz.prog 244=some [.bool false,.nilsl]:=by kernel_rfl
@[go_sem] theorem C2W:A1h Tryz.prog 244=none:=by kernel_rfl
@[go_sem] theorem C1H:C7 Tryz.prog 246= .struct:=by kernel_rfl
@[go_sem] theorem B82:F7 Tryz.prog 246=some (true,4):=by kernel_rfl
@[go_sem] theorem B8l:L5 Tryz.prog 246=some [(0,false,1),(1,true,2),(3,false,1)]:=by kernel_rfl
@[go_sem] theorem C1h:G4 Tryz.prog 246=some [.nilsl,.bool false,.nilsl,.bool false]:=by kernel_rfl
@[go_sem] theorem C2X:A1h Tryz.prog 246=none:=by kernel_rfl
@[go_sem] theorem C1I:C7 Tryz.prog 302= .slice:=by kernel_rfl
@[go_sem] theorem C1Q:G6 Tryz.prog 302=some (216,1,24):=by kernel_rfl
theorem A6:Tryz.prog.follows .mixedOrders=true:=by kernel_rfl
end Go.Proofs
namespace Go.Proofs
open Go.RowKit Go.Maps Go.Sort Go.Shelf

--maps.Keys[map[string]bool,string,bool] (function 47;its iterator 89) · slices.Sorted[string] (46) · slices.Sort[[]string,string] (88) · the map's type 72,the keys' 9
def Tryz.keys47_ren:Go.Shelf.Ren:=⟨fun|7=>47|10=>89|n=>n,fun|23=>72|26=>9|3=>4|28=>77|0=>0|27=>76|33=>123|4=>4|n=>n,fun|n=>n⟩
theorem A2I:SlLaysZ.n7 Tryz.prog Tryz.keys47_ren:={
 mixed:=by kernel_rfl
 f7:=Exists.intro "maps.Keys[map[string]bool,string,bool]" ⟨D1I (by kernel_rfl),(Tryz.func47).trans (congrArg some (by kernel_rfl))⟩
 f10:=Exists.intro "maps.Keys[map[string]bool,string,bool]$1" ⟨D1I (by kernel_rfl),(Tryz.func89).trans (congrArg some (by kernel_rfl))⟩
 t0:=Tryz.underlying0
 a0:=Tryz.isAgg0
 z0:=Tryz.sizeOf0
 v0:=Tryz.zeroValue0
 t4:=Tryz.underlying4
 a4:=Tryz.isAgg4
 z4:=Tryz.sizeOf4
 v4:=Tryz.zeroValue4
 t23:=Tryz.underlying72
 a23:=Tryz.isAgg72
 z23:=Tryz.sizeOf72
 v23:=Tryz.zeroValue72
 t26:=Tryz.underlying9
 a26:=Tryz.isAgg9
 z26:=Tryz.sizeOf9
 v26:=Tryz.zeroValue9
 t27:=Tryz.underlying76
 a27:=Tryz.isAgg76
 z27:=Tryz.sizeOf76
 v27:=Tryz.zeroValue76
 t28:=Tryz.underlying77
 a28:=Tryz.isAgg77
 z28:=Tryz.sizeOf77
 v28:=Tryz.zeroValue77
 t33:=Tryz.underlying123
 a33:=Tryz.isAgg123
 z33:=Tryz.sizeOf123
 v33:=Tryz.zeroValue123}
def Tryz.sorted46_ren:Go.Shelf.Ren:=⟨fun|6=>46|8=>87|9=>88|11=>132|13=>134|12=>133|23=>169|24=>170|14=>160|15=>161|16=>162|17=>163|18=>164|19=>165|20=>166|21=>167|22=>168|25=>203|26=>204|27=>205|28=>206|29=>207|30=>208|31=>231|n=>n,fun|26=>9|28=>77|24=>31|0=>0|3=>3|37=>163|48=>194|50=>196|4=>4|40=>188|39=>187|45=>92|5=>5|9=>9|51=>226|55=>230|57=>256|58=>257|33=>123|n=>n,fun|n=>n⟩
theorem A2r:SlLaysZ.n6 Tryz.prog Tryz.sorted46_ren:={
 mixed:=by kernel_rfl
 f6:=Exists.intro "slices.Sorted[string]" ⟨D1I (by kernel_rfl),(Tryz.func46).trans (congrArg some (by kernel_rfl))⟩
 f8:=Exists.intro "slices.Collect[string]" ⟨D1I (by kernel_rfl),(Tryz.func87).trans (congrArg some (by kernel_rfl))⟩
 f11:=Exists.intro "slices.AppendSeq[[]string,string]" ⟨D1I (by kernel_rfl),(Tryz.func132).trans (congrArg some (by kernel_rfl))⟩
 t0:=Tryz.underlying0
 a0:=Tryz.isAgg0
 z0:=Tryz.sizeOf0
 v0:=Tryz.zeroValue0
 t24:=Tryz.underlying31
 a24:=Tryz.isAgg31
 z24:=Tryz.sizeOf31
 v24:=Tryz.zeroValue31
 t26:=Tryz.underlying9
 a26:=Tryz.isAgg9
 z26:=Tryz.sizeOf9
 v26:=Tryz.zeroValue9
 t28:=Tryz.underlying77
 a28:=Tryz.isAgg77
 z28:=Tryz.sizeOf77
 v28:=Tryz.zeroValue77
 i26:=by kernel_rfl}
def Tryz.sort88_ren:Go.Shelf.Ren:=⟨fun|6=>88|8=>134|9=>133|19=>169|20=>170|21=>160|22=>161|23=>162|24=>163|25=>164|26=>165|27=>166|28=>167|29=>168|36=>203|31=>204|32=>205|37=>206|38=>207|39=>208|41=>231|n=>n,fun|27=>31|29=>9|3=>3|32=>163|26=>31|0=>0|44=>194|46=>196|4=>4|36=>188|35=>187|41=>92|5=>5|9=>9|53=>226|57=>230|63=>256|64=>257|n=>n,fun|n=>n⟩
theorem A5H:SlLaysM.n6 Tryz.prog Tryz.sort88_ren:={
 mixed:=by kernel_rfl
 f6:=Exists.intro "slices.Sort[[]string,string]" ⟨D1I (by kernel_rfl),(Tryz.func88).trans (congrArg some (by kernel_rfl))⟩
 f8:=(Tryz.func134).trans (congrArg some (by kernel_rfl))
 f9:=Exists.intro "slices.pdqsortOrdered[string]" ⟨D1I (by kernel_rfl),(Tryz.func133).trans (congrArg some (by kernel_rfl))⟩
 f19:=(Tryz.func169).trans (congrArg some (by kernel_rfl))
 f20:=(Tryz.func170).trans (congrArg some (by kernel_rfl))
 f21:=Exists.intro "slices.insertionSortOrdered[string]" ⟨D1I (by kernel_rfl),(Tryz.func160).trans (congrArg some (by kernel_rfl))⟩
 f22:=Exists.intro "slices.heapSortOrdered[string]" ⟨D1I (by kernel_rfl),(Tryz.func161).trans (congrArg some (by kernel_rfl))⟩
 f23:=Exists.intro "slices.breakPatternsOrdered[string]" ⟨D1I (by kernel_rfl),(Tryz.func162).trans (congrArg some (by kernel_rfl))⟩
 f24:=Exists.intro "slices.choosePivotOrdered[string]" ⟨D1I (by kernel_rfl),(Tryz.func163).trans (congrArg some (by kernel_rfl))⟩
 f25:=Exists.intro "slices.reverseRangeOrdered[string]" ⟨D1I (by kernel_rfl),(Tryz.func164).trans (congrArg some (by kernel_rfl))⟩
 f26:=Exists.intro "slices.partialInsertionSortOrdered[string]" ⟨D1I (by kernel_rfl),(Tryz.func165).trans (congrArg some (by kernel_rfl))⟩
 f27:=Exists.intro "cmp.Less[string]" ⟨D1I (by kernel_rfl),(Tryz.func166).trans (congrArg some (by kernel_rfl))⟩
 f28:=Exists.intro "slices.partitionEqualOrdered[string]" ⟨D1I (by kernel_rfl),(Tryz.func167).trans (congrArg some (by kernel_rfl))⟩
 f29:=Exists.intro "slices.partitionOrdered[string]" ⟨D1I (by kernel_rfl),(Tryz.func168).trans (congrArg some (by kernel_rfl))⟩
 f31:=(Tryz.func204).trans (congrArg some (by kernel_rfl))
 f32:=(Tryz.func205).trans (congrArg some (by kernel_rfl))
 f36:=Exists.intro "slices.siftDownOrdered[string]" ⟨D1I (by kernel_rfl),(Tryz.func203).trans (congrArg some (by kernel_rfl))⟩
 f37:=Exists.intro "slices.medianAdjacentOrdered[string]" ⟨D1I (by kernel_rfl),(Tryz.func206).trans (congrArg some (by kernel_rfl))⟩
 f38:=Exists.intro "slices.medianOrdered[string]" ⟨D1I (by kernel_rfl),(Tryz.func207).trans (congrArg some (by kernel_rfl))⟩
 f39:=Exists.intro "cmp.isNaN[string]" ⟨D1I (by kernel_rfl),(Tryz.func208).trans (congrArg some (by kernel_rfl))⟩
 f41:=Exists.intro "slices.order2Ordered[string]" ⟨D1I (by kernel_rfl),(Tryz.func231).trans (congrArg some (by kernel_rfl))⟩
 t0:=Tryz.underlying0
 a0:=Tryz.isAgg0
 z0:=Tryz.sizeOf0
 v0:=Tryz.zeroValue0
 t3:=Tryz.underlying3
 a3:=Tryz.isAgg3
 z3:=Tryz.sizeOf3
 v3:=Tryz.zeroValue3
 t4:=Tryz.underlying4
 a4:=Tryz.isAgg4
 z4:=Tryz.sizeOf4
 v4:=Tryz.zeroValue4
 t5:=Tryz.underlying5
 a5:=Tryz.isAgg5
 z5:=Tryz.sizeOf5
 v5:=Tryz.zeroValue5
 t9:=Tryz.underlying9
 a9:=Tryz.isAgg9
 z9:=Tryz.sizeOf9
 v9:=Tryz.zeroValue9
 t26:=Tryz.underlying31
 a26:=Tryz.isAgg31
 z26:=Tryz.sizeOf31
 v26:=Tryz.zeroValue31
 t27:=Tryz.underlying31
 a27:=Tryz.isAgg31
 z27:=Tryz.sizeOf31
 v27:=Tryz.zeroValue31
 t29:=Tryz.underlying9
 a29:=Tryz.isAgg9
 z29:=Tryz.sizeOf9
 v29:=Tryz.zeroValue9
 t32:=Tryz.underlying163
 a32:=Tryz.isAgg163
 z32:=Tryz.sizeOf163
 v32:=Tryz.zeroValue163
 t35:=Tryz.underlying187
 a35:=Tryz.isAgg187
 z35:=Tryz.sizeOf187
 v35:=Tryz.zeroValue187
 t36:=Tryz.underlying188
 a36:=Tryz.isAgg188
 z36:=Tryz.sizeOf188
 v36:=Tryz.zeroValue188
 t41:=Tryz.underlying92
 a41:=Tryz.isAgg92
 z41:=Tryz.sizeOf92
 v41:=Tryz.zeroValue92
 t44:=Tryz.underlying194
 a44:=Tryz.isAgg194
 z44:=Tryz.sizeOf194
 v44:=Tryz.zeroValue194
 t46:=Tryz.underlying196
 a46:=Tryz.isAgg196
 z46:=Tryz.sizeOf196
 v46:=Tryz.zeroValue196
 t53:=Tryz.underlying226
 a53:=Tryz.isAgg226
 z53:=Tryz.sizeOf226
 v53:=Tryz.zeroValue226
 t57:=Tryz.underlying230
 a57:=Tryz.isAgg230
 z57:=Tryz.sizeOf230
 v57:=Tryz.zeroValue230
 t63:=Tryz.underlying256
 a63:=Tryz.isAgg256
 z63:=Tryz.sizeOf256
 v63:=Tryz.zeroValue256
 t64:=Tryz.underlying257
 a64:=Tryz.isAgg257
 z64:=Tryz.sizeOf257
 v64:=Tryz.zeroValue257}
theorem A39(m:Nat):AnyZ.SortsIn Tryz.prog Tryz.sorted46_ren Fence.wide m:=
  ⟨fun i off cap j W o h hsz=>callsIn_wide.2 (AnyM.slices_Sort_string A5H i off cap j W o h hsz),
   fun p cap W=>callsIn_wide.2 (AnyM.slices_Sort_string_none A5H p cap W)⟩
theorem A0d(mb:Option Nat)(W:World):CallsIn Fence.wide 5 Tryz.prog 47 #[.map mb] W fun e w'=>e= .returned (.func (.func 89) #[] #[.pointer (some ⟨W.heap.size,0,none⟩)])∧w'=W.alloc (.cells #[.map mb] 72):=
 AnyZ.keys_in A2I Fence.wide 5 trivial rfl mb W
end Go.Proofs
namespace Go.Av
open Go.RowKit
theorem A2T{H:Heap}{w w':World}(h:Below w.heap.size w w'):Ext H w w':=
 ⟨h.os,h.tape,h.output,h.size,fun k hk _=>h.block k hk,fun k hk=>by unfold World.shape?;rw[h.block k hk]⟩
theorem A4U{H:Heap}{w w':World}(hs:Sat H w)(h:Below w.heap.size w w'):Sat H w':=fun b o hb=>
 (hs b o hb).mono (A2T h) (D2o _ _) (h.block b (hs.lt hb))
theorem J0{P:Program}{f:Nat}{args:List D}{H:Heap}{Q:D→Heap→Prop}{r:D}(hb:A1n P f=true)
  (h: ∀w (vs:Array Value),args.length=vs.size→(∀(i:Nat) d,args[i]? =some d→R w H d (vs.getD i Go.undef))→Sat H w→Calls P f vs w fun e w'=>∃v,e= .returned v∧Below w.heap.size w w'∧R w' H r v)
  (hq:Q r H):ACalls P f args H Q:=
 ⟨hb,fun w vs h1 m j=>(h w vs h1 m j).mono fun e w' ⟨v,he,hB,o⟩=>⟨v,he,r,H,o,A4U j hB,A2T hB,D2o _ _,hq⟩⟩
theorem A1z{w:World}{H:Heap}{d:D}{vs:Array Value}(hl: [d].length=vs.size)(hr: ∀(i:Nat) d',[d][i]? =some d'→R w H d' (vs.getD i Go.undef)): ∃a,vs= #[a]∧R w H d a:=by
 obtain⟨l⟩:=vs
 match l,hl with
 | [a],_=>exact⟨a,rfl,by simpa using hr 0 d rfl⟩
theorem A0E{w:World}{H:Heap}{d e:D}{vs:Array Value}(hl: [d,e].length=vs.size)(hr: ∀(i:Nat) d',[d,e][i]? =some d'→R w H d' (vs.getD i Go.undef)): ∃a b,vs= #[a,b]∧R w H d a∧R w H e b:=by
 obtain⟨l⟩:=vs
 match l,hl with
 | [a,b],_=>exact⟨a,b,rfl,by simpa using hr 0 d rfl,by simpa using hr 1 e rfl⟩
def B0O(k:IntKind)(zs:List Int):List D:=zs.map (D.int k)
theorem B6T{P:Program}{w:World}{H:Heap}{name:String}{g:Nat}{k:IntKind}{m:List Int}(p:P.globalNamed name=some g)(hs:Sat H w)(h:H g=some (.ro (B0O k m))):Lib.TabIs P w name k m:=by
 obtain⟨c,T,u,h1,q,r⟩:=hs g _ h;unfold Lib.TabIs World.var?;rw[p];simp only[D1l,h1,D1t];apply Array.ext
 ·simpa [B0O]using q
 ·intro i o j;simp at j;have:=(r i (.int k m[i]) (by simp[B0O,j])).2;have e:=this.int_inv;simp[o]at e;simp[e]
theorem B18(w:World)(k:Nat)(os:Array Go.Obj):Below w.heap.size w (Sort.grow (w.drewN k) os):=
 ⟨rfl,rfl,rfl,by simp[Sort.grow,World.drewN],fun i h=>by
  have:(w.drewN k).heap=w.heap:=rfl;simp only[Sort.grow,this];rw[Array.getElem?_append,if_pos h]⟩
theorem B0P(w:World)(e:TypeId)(s:ByteArray):Below w.heap.size w (Lib.bytesWorld w e s):=
 ⟨rfl,rfl,rfl,by rw[Lib.bytesWorld_size];omega,fun i h=>Lib.bytesWorld_at_old w e s i h⟩
end Go.Av
namespace Go.Lin
open Go Go.Av Go.RowKit Go.Maps Go.Sort Go.Shelf Go.Lexs Go.WideElems
theorem A41{H:Type}(x:Lit×DataW H): ∀l:List (Lit×DataW H),(DataW.insert x l).Perm (x::l)
 | []=>List.Perm.refl _
 |y::l=>by
  unfold DataW.insert;split
  ·exact List.Perm.refl _
  ·exact((A41 x l).cons y).trans (List.Perm.swap x y l)
theorem A0F{H:Type}: ∀l:List (Lit×DataW H),(l.foldr DataW.insert []).Perm l
 | []=>List.Perm.refl _
 |x::l=>(A41 x _).trans ((A0F l).cons x)
def A1i{H:Type}:Value→Option (DataW H×List MemPlace):=fun _=>some (.lit (.bool true),[])
def D2(f:ByteArray→D)(ks:List ByteArray):List (D×D):=ks.map fun s=>(.str s,f s)
theorem B3L{i:List (List UInt8)}(j:i.Nodup):((i.mergeSort (fun x y=>decide (x≤y))).map S).Pairwise fun x y=>q9 x y=true:=by
 have h1:(i.mergeSort (fun x y=>decide (x≤y))).Pairwise (fun x y=>decide (x≤y)=true):=List.pairwise_mergeSort (fun a b c h1 m=>by simp only[D1d]at*;exact List.le_trans h1 m) (fun a b=>by simp only[D2e,D1d];exact List.le_total a b) i;have m:(i.mergeSort (fun x y=>decide (x≤y))).Nodup:=(List.mergeSort_perm i _).nodup_iff.2 j;rw[List.pairwise_map];refine(h1.and m).imp fun {x y} h=>?_;rw[A3c,v8,v8];have o:x≤y:=D1I h.1;by_cases g:x<y
 ·exact g
 ·exact absurd (List.le_antisymm o (List.not_lt.1 g)) h.2
end Go.Lin
namespace Go.Proofs.YtibphjonmikciaaGreatDoor
open Go Go.Av Go.RowKit Go.Maps Go.Sort Go.Shelf Go.Lexs Go.WideElems Go.Lin
abbrev D7:=ACalls Tryz.prog
theorem B9k{Q}(b:Nat)(H:Heap)(h: ∀bk,H bk=none→Q (.fn (.func 89) [] [.box bk 0]) (H.set bk (.box [.map b]))):D7 47 [.map b] H Q:=by
 refine⟨by kernel_rfl,fun w vs hl hr hs=>?_⟩;obtain⟨a,rfl,m⟩:=A1z hl hr;have o:a= .map (some b):=by cases m;rfl
 subst o;refine(callsIn_wide.1 (A0d (some b) w)).mono ?_;rintro e w' ⟨rfl,rfl⟩;have hp:=A3M (K:=fun d H'=>∃bk,d= .box bk 0∧H bk=none∧H'=H.set bk (.box [.map b])) hs (cs:=[.map b]) (vs:= #[.map (some b)]) 72 (Z:=none) (by simp) ⟨rfl,fun i d hd=>(match i,hd with|0,hd=>by cases hd;rfl|i+1,hd=>by cases hd),fun i d hd=>(match i,hd with|0,hd=>by cases hd;exact .map b|i+1,hd=>by cases hd)⟩ (fun bk j=>⟨bk,rfl,j,rfl⟩);obtain⟨d,x,p,q,r,u,bk,rfl,j,rfl⟩:=hp;refine⟨_,rfl,.fn (.func 89) [] [.box bk 0],_,?_,q,r,u,h bk j⟩;refine .fn _ [] [.box bk 0] #[] #[_] rfl rfl (by simp) fun i d hd=>?_
 match i with
 |0=>cases hd;exact p
 |i+1=>cases hd
theorem B9l{Q}(bk b:Nat)(f:ByteArray→D)(ks:List ByteArray)(hlen:ks.length≤1000000000)(hsz: ∀s∈ks,s.size≤4611686018427387904)(H:Heap)(h1:H bk=some (.box [.map b]))(U:H b=some (.map (D2 f ks)))
  (h: ∀l:List ByteArray,l.Pairwise (fun x y=>q9 x y=true)→(∀s,s∈l↔s∈ks)→Q (.sl 1 (Rw j9 l)) H):D7 46 [.fn (.func 89) [] [.box bk 0]] H Q:=by
 refine⟨by kernel_rfl,fun w vs hl hr hs=>?_⟩;obtain⟨a,rfl,ha⟩:=A1z hl hr;have ea:a= .func (.func 89) #[] #[.pointer (some ⟨bk,0,none⟩)]:=by
  cases ha with
  |fn _ _ _ b3 b4 b6 b7 q1 q2=>
   have e1:b3= #[]:=Array.eq_empty_of_size_eq_zero (by simpa using b6.symm);obtain⟨l2⟩:=b4
   match l2,b7 with
   | [x],_=>
    have hx:=q2 0 _ rfl;have:x= .pointer (some ⟨bk,0,none⟩):=by
     simp at hx;cases hx;rfl
    rw[e1,this]
 subst ea;obtain⟨c,T,lo,r,c1,_,c2,c3,_⟩:=hs _ _ h1;obtain⟨es,A,m1,m2,m3,m4⟩:=hs _ _ U;have b8:c[0]? =some (.map (some b)):=by
  have h0:=(c3 0 (.map b) rfl).2;have hsz:0<c.size:=by rw[c2];simp
  have e:c[0]? =some (c.getD 0 undef):=by simp[hsz]
  rw[e];revert h0;generalize c.getD 0 undef=x;intro h0;cases h0;rfl
 have G:w.cell? ⟨bk,0,none⟩=some (.map (some b)):=by
  unfold World.cell?;simp only[c1];exact b8
 have b9:bk<w.heap.size:=hs.lt h1;have V: ∀(i:Nat) (r:i<ks.length),(es.getD i default).key= .string ks[i]:=fun i r=>by
  have:=(m4 i (.str ks[i],f ks[i]) (by simp[D2,r])).2.1;revert this;generalize (es.getD i default).key=x;intro this;cases this;rfl
 have W:es.size=ks.length:=by rw[m3];simp[D2]
 have I:es.toList.map (·.key)=ks.map .string:=by
  apply D2c
  ·simp[W]
  ·intro i h1 U;have r:i<ks.length:=by simpa using U
   have:=V i r;have m:i<es.size:=by omega
   simp[m]at this;simp[this]
 have X: ∀x∈es.toList,∃s∈ks,x.key= .string s:=fun x hx=>by
  have:x.key∈es.toList.map (·.key):=D2F.2 ⟨x,hx,rfl⟩;rw[I]at this;obtain⟨s,hs,e⟩:=D2F.1 this;exact⟨s,hs,e.symm⟩
 have Y:Tryz.prog.underlying 9=some .string:=by kernel_rfl
 have a0: ∀x∈es.toList,∀s,s∈ks→x.key= .string s→WideElems.rd (H:=Unit) Tryz.prog 9 A1i x=some (.string s.data.toList,.lit (.bool true)):=fun x _ s hs e=>by
  unfold WideElems.rd;rw[e,WideMaps.keyOf_string_mk Y (by have:=hsz s hs;unfold maxLen;omega)];rfl
 have a6:w.ownsMap (H:=Unit) Tryz.prog 9 A1i b es.size (.map ((es.toList.map (rg Tryz.prog 9 A1i)).foldr DataW.insert [])):=by
  refine⟨es,A,m1,⟨by unfold maxLen;omega,m2,fun x hx=>?_⟩,D1b _,rfl⟩;obtain⟨s,hs,e⟩:=X x hx;exact⟨_,a0 x hx s hs e⟩
 have c0: ∀x∈es.toList,∀s,s∈ks→x.key= .string s→rg (H:=Unit) Tryz.prog 9 A1i x=(.string s.data.toList,.lit (.bool true)):=fun x hx s hs e=>rg_of (a0 x hx s hs e);have c4:(strKeys (H:=Unit) (.map ((es.toList.map (rg Tryz.prog 9 A1i)).foldr DataW.insert []))).Perm (ks.map B):=by
  show (((es.toList.map (rg Tryz.prog 9 A1i)).foldr DataW.insert []).map fun p=>strOf p.1).Perm _;refine((A0F _).map _).trans ?_;rw[List.map_map];have:es.toList.map ((fun p=>strOf p.1) ∘ rg (H:=Unit) Tryz.prog 9 A1i)=ks.map B:=by
   have e2:ks.map B=(es.toList.map (·.key)).map (fun v=>match v with| .string s=>B s|_=>[]):=by rw[I,List.map_map];rfl
   rw[e2,List.map_map];refine List.map_congr_left fun x hx=>?_;obtain⟨s,hs,e⟩:=X x hx;simp only[Function.comp];rw[c0 x hx s hs e,e];rfl
  rw[this]
 have c5:(ks.map B).Nodup:=by
  have:=m2.2.2;rw[I]at this;have U:List.Pairwise (fun a b:ByteArray=>Value.string a≠Value.string b) ks:=List.pairwise_map.1 this;have O:List.Pairwise (fun a b:ByteArray=>B a≠B b) ks:=U.imp fun {a b} h e=>h (congrArg Value.string (l7 e));exact List.pairwise_map.2 O
 have a9:=AnyZ.keys_gives (ρ :=Tryz.keys47_ren) {A2I with} Fence.wide 2 trivial rfl (by omega) bk b es.size _ w b9 G a6;have b0:Maps.size (.map ((es.toList.map (rg (H:=Unit) Tryz.prog 9 A1i)).foldr DataW.insert []):DataW Unit)=ks.length:=by
  show (((es.toList.map (rg Tryz.prog 9 A1i)).foldr DataW.insert [])).length=_;rw[(A0F _).length_eq];simp[W]
 refine(callsIn_wide.1 (AnyZ.sorted_in A2r Fence.wide 5 trivial trivial trivial trivial rfl (by omega) (A39 _) (enters_of Tryz.func88 (by kernel_rfl) rfl) 89 #[.pointer (some ⟨bk,0,none⟩)] trivial (enters_of Tryz.func89 (by kernel_rfl) rfl) _ _ (by rw[b0];unfold maxLen;omega) (by rw[b0];omega) w a9)).mono ?_;rintro e w' ⟨v,o,rfl,hS,u,_,hB⟩;have hp:o.Perm (ks.map B):=hS.trans c4;have c6:o.Nodup:=hp.nodup_iff.2 c5;have c7:=B3L c6;have b1: ∀s,s∈(o.mergeSort (fun x y=>decide (x≤y))).map S↔s∈ks:=fun s=>by
  rw[D2F];constructor
  ·rintro⟨x,hx,rfl⟩;have:=hp.mem_iff.1 ((List.mergeSort_perm o _).mem_iff.1 hx);obtain⟨t,ht,rfl⟩:=D2F.1 this;rw[S_B];exact ht
  ·intro hs;refine⟨B s,(List.mergeSort_perm o _).mem_iff.2 (hp.mem_iff.2 (D2F.2 ⟨s,hs,rfl⟩)),S_B s⟩
 refine⟨v,rfl,.sl 1 (Rw j9 ((o.mergeSort (fun x y=>decide (x≤y))).map S)),H,?_,A4U hs hB,A2T hB,D2o _ _,h _ c7 b1⟩;have J:((o.mergeSort (fun x y=>decide (x≤y))).map S).length=o.length:=by simp
 generalize o.mergeSort (fun x y=>decide (x≤y))=zs at u J⊢;obtain⟨r1,r2⟩:=u;rcases r2 with⟨rfl,r3⟩|⟨g,cap,q,rfl,r3,r4,r5,r6,r7,r8⟩
 ·have:zs.map S= []:=D1f (by rw[J,r3]);rw[this];exact .sl0 _ _ _
 ·have M:(Rw j9 (zs.map S)).length=o.length:=by rw[D6,J]
  rw[←M];refine .sl 1 _ g 0 cap (fun i j=>q.getD i undef) ?_ ?_ (fun i e he=>?_) (by rw[M];exact r5) (fun i j r hj=>?_) (fun i e j d he hd=>?_) (fun i e j d he hd=>?_)
  ·by_cases b2:g<w'.heap.size
   ·exact b2
   ·rw[Array.getElem?_eq_none (Nat.le_of_not_lt b2)]at r4;cases r4
  ·exact G7 (hs.fresh r3)
  ·rw[Rw,D1e]at he;obtain⟨x,_,rfl⟩:=D1Q.1 he;rfl
  ·have c8:j=0:=by omega
   subst c8;have m:i<q.size:=by rw[M]at r;rw[r7];omega
   unfold World.cell?;simp only[r4];simp[m]
  ·rw[Rw,D1e]at he;obtain⟨x,_,rfl⟩:=D1Q.1 he
   match j with
   |0=>cases hd;rfl
   |j+1=>cases hd
  ·rw[Rw,D1e,D1e]at he;obtain⟨x,hx,rfl⟩:=D1Q.1 he;obtain⟨z,hz,rfl⟩:=D1Q.1 hx
   match j with
   |0=>
    cases hd;have r:i<zs.length:=(D1R.1 hz).1;have O:(q.toList.take (o.length*1))[i]? =some (encStr z):=by rw[r8,D1e,hz];rfl
    rw[List.getElem?_take]at O;split at O
    ·have:q[i]? =some (encStr z):=by simpa using O
     have e:q.getD i undef=encStr z:=by
      have m:=(D1g.1 this)
      obtain⟨c9,d0⟩:=m;simp[c9,d0]
     rw[e];exact .str _
    ·cases O
   |j+1=>cases hd
end Go.Proofs.YtibphjonmikciaaGreatDoor
namespace Go.Proofs
open Go.Shelf
def Tryz.lays106_ren:Go.Shelf.Ren:=⟨fun|106=>106|213=>139|265=>174|n=>n,fun|9=>9|3=>3|n=>n,fun|n=>n⟩
theorem A9g:Go.Proofs.Lays.n106 Tryz.prog Tryz.lays106_ren:={
 mixed:=by kernel_rfl
 f106:=Tryz.func106.trans (congrArg some (by kernel_rfl))
 f213:=Tryz.func139.trans (congrArg some (by kernel_rfl))
 f265:=Tryz.func174.trans (congrArg some (by kernel_rfl))
 t3:=Tryz.underlying3
 a3:=Tryz.isAgg3
 z3:=Tryz.sizeOf3
 v3:=Tryz.zeroValue3
 t9:=Tryz.underlying9
 a9:=Tryz.isAgg9
 z9:=Tryz.sizeOf9
 v9:=Tryz.zeroValue9}
open Go.RowKit in
theorem Tryz.strings_Compare(a b:ByteArray)(w:World):
  Calls Tryz.prog 106 #[.string a,.string b] w fun e w'=>e= .returned (.int .i64 (Lib.compareBytes a.data.toList b.data.toList))∧w'=w:=Any.strings_Compare A9g a b w
def Tryz.lays137_ren:Go.Shelf.Ren:=⟨fun|137=>138|217=>173|266=>209|n=>n,fun|9=>9|5=>5|3=>3|n=>n,fun|n=>n⟩
theorem A9h:Go.Proofs.Lays.n137 Tryz.prog Tryz.lays137_ren:={
 mixed:=by kernel_rfl
 f137:=Tryz.func138.trans (congrArg some (by kernel_rfl))
 f217:=Tryz.func173.trans (congrArg some (by kernel_rfl))
 f266:=Tryz.func209.trans (congrArg some (by kernel_rfl))
 t3:=Tryz.underlying3
 a3:=Tryz.isAgg3
 z3:=Tryz.sizeOf3
 v3:=Tryz.zeroValue3
 t5:=Tryz.underlying5
 a5:=Tryz.isAgg5
 z5:=Tryz.sizeOf5
 v5:=Tryz.zeroValue5
 t9:=Tryz.underlying9
 a9:=Tryz.isAgg9
 z9:=Tryz.sizeOf9
 v9:=Tryz.zeroValue9}
open Go.RowKit in
theorem Tryz.strings_IndexByte(s:ByteArray)(c:Int)(w:World):
  Calls Tryz.prog 138 #[.string s,.int .u8 c] w fun e w'=>e= .returned (.int .i64 (Lib.indexByte s.data.toList c.toNat.toUInt8))∧w'=w:=Any.strings_IndexByte A9h s c w
def Tryz.lays103_ren:Go.Shelf.Ren:=⟨fun|103=>145|210=>177|206=>211|n=>n,fun|9=>9|4=>4|24=>171|3=>3|n=>n,fun|n=>n⟩
theorem A9e:Go.Proofs.Lays.n103 Tryz.prog Tryz.lays103_ren:={
 mixed:=by kernel_rfl
 f103:=Tryz.func145.trans (congrArg some (by kernel_rfl))
 f206:=Tryz.func211.trans (congrArg some (by kernel_rfl))
 f210:=Tryz.func177.trans (congrArg some (by kernel_rfl))
 t3:=Tryz.underlying3
 a3:=Tryz.isAgg3
 z3:=Tryz.sizeOf3
 v3:=Tryz.zeroValue3
 t4:=Tryz.underlying4
 a4:=Tryz.isAgg4
 z4:=Tryz.sizeOf4
 v4:=Tryz.zeroValue4
 t9:=Tryz.underlying9
 a9:=Tryz.isAgg9
 z9:=Tryz.sizeOf9
 v9:=Tryz.zeroValue9
 t24:=Tryz.underlying171
 a24:=Tryz.isAgg171
 z24:=Tryz.sizeOf171
 v24:=Tryz.zeroValue171}
open Go.RowKit in
theorem Tryz.strings_CutPrefix(s p:ByteArray)(w:World):
  Calls Tryz.prog 145 #[.string s,.string p] w fun e w'=>e= .returned (.tuple #[.string ⟨(Lib.trimPrefix s.data.toList p.data.toList).toArray⟩,.bool (Lib.hasPrefix s.data.toList p.data.toList)])∧w'=w:=Any.strings_CutPrefix A9e s p w
def Tryz.lays104_ren:Go.Shelf.Ren:=⟨fun|104=>147|211=>182|207=>184|n=>n,fun|9=>9|4=>4|24=>171|3=>3|n=>n,fun|n=>n⟩
theorem A9f:Go.Proofs.Lays.n104 Tryz.prog Tryz.lays104_ren:={
 mixed:=by kernel_rfl
 f104:=Tryz.func147.trans (congrArg some (by kernel_rfl))
 f207:=Tryz.func184.trans (congrArg some (by kernel_rfl))
 f211:=Tryz.func182.trans (congrArg some (by kernel_rfl))
 t3:=Tryz.underlying3
 a3:=Tryz.isAgg3
 z3:=Tryz.sizeOf3
 v3:=Tryz.zeroValue3
 t4:=Tryz.underlying4
 a4:=Tryz.isAgg4
 z4:=Tryz.sizeOf4
 v4:=Tryz.zeroValue4
 t9:=Tryz.underlying9
 a9:=Tryz.isAgg9
 z9:=Tryz.sizeOf9
 v9:=Tryz.zeroValue9
 t24:=Tryz.underlying171
 a24:=Tryz.isAgg171
 z24:=Tryz.sizeOf171
 v24:=Tryz.zeroValue171}
open Go.RowKit in
theorem Tryz.strings_CutSuffix(s p:ByteArray)(w:World)(hs:s.size≤9223372036854775807):
  Calls Tryz.prog 147 #[.string s,.string p] w fun e w'=>e= .returned (.tuple #[.string ⟨(Lib.trimSuffix s.data.toList p.data.toList).toArray⟩,.bool (Lib.hasSuffix s.data.toList p.data.toList)])∧w'=w:=Any.strings_CutSuffix A9f s p w hs
def Tryz.laysM171_ren:Go.Shelf.Ren:=⟨fun|171=>142|243=>176|246=>210|283=>232|284=>233|285=>234|286=>235|129=>170|317=>268|318=>269|319=>270|320=>271|337=>289|338=>290|n=>n,fun|3=>3|9=>9|2=>2|4=>4|171=>259|0=>0|53=>196|37=>95|5=>5|173=>261|212=>288|51=>194|20=>20|213=>289|46=>163|232=>316|233=>317|n=>n,fun|17=>1|18=>4|19=>5|n=>n⟩
theorem A7L:Go.Proofs.LaysM.n171 Tryz.prog Tryz.laysM171_ren:={
 mixed:=by kernel_rfl
 f129:=Tryz.func170.trans (congrArg some (by kernel_rfl))
 f171:=Tryz.func142.trans (congrArg some (by kernel_rfl))
 f243:=Tryz.func176.trans (congrArg some (by kernel_rfl))
 f246:=Tryz.func210.trans (congrArg some (by kernel_rfl))
 f283:=Tryz.func232.trans (congrArg some (by kernel_rfl))
 f284:=Tryz.func233.trans (congrArg some (by kernel_rfl))
 f285:=Tryz.func234.trans (congrArg some (by kernel_rfl))
 f286:=Tryz.func235.trans (congrArg some (by kernel_rfl))
 f317:=Tryz.func268.trans (congrArg some (by kernel_rfl))
 f318:=Tryz.func269.trans (congrArg some (by kernel_rfl))
 f319:=Tryz.func270.trans (congrArg some (by kernel_rfl))
 f320:=Tryz.func271.trans (congrArg some (by kernel_rfl))
 f337:=Tryz.func289.trans (congrArg some (by kernel_rfl))
 f338:=Tryz.func290.trans (congrArg some (by kernel_rfl))
 t0:=Tryz.underlying0
 a0:=Tryz.isAgg0
 z0:=Tryz.sizeOf0
 v0:=Tryz.zeroValue0
 t2:=Tryz.underlying2
 a2:=Tryz.isAgg2
 z2:=Tryz.sizeOf2
 v2:=Tryz.zeroValue2
 t3:=Tryz.underlying3
 a3:=Tryz.isAgg3
 z3:=Tryz.sizeOf3
 v3:=Tryz.zeroValue3
 t4:=Tryz.underlying4
 a4:=Tryz.isAgg4
 z4:=Tryz.sizeOf4
 v4:=Tryz.zeroValue4
 t5:=Tryz.underlying5
 a5:=Tryz.isAgg5
 z5:=Tryz.sizeOf5
 v5:=Tryz.zeroValue5
 t9:=Tryz.underlying9
 a9:=Tryz.isAgg9
 z9:=Tryz.sizeOf9
 v9:=Tryz.zeroValue9
 t20:=Tryz.underlying20
 a20:=Tryz.isAgg20
 z20:=Tryz.sizeOf20
 v20:=Tryz.zeroValue20
 t37:=Tryz.underlying95
 a37:=Tryz.isAgg95
 z37:=Tryz.sizeOf95
 v37:=Tryz.zeroValue95
 t46:=Tryz.underlying163
 a46:=Tryz.isAgg163
 z46:=Tryz.sizeOf163
 v46:=Tryz.zeroValue163
 t51:=Tryz.underlying194
 a51:=Tryz.isAgg194
 z51:=Tryz.sizeOf194
 v51:=Tryz.zeroValue194
 t53:=Tryz.underlying196
 a53:=Tryz.isAgg196
 z53:=Tryz.sizeOf196
 v53:=Tryz.zeroValue196
 t171:=Tryz.underlying259
 a171:=Tryz.isAgg259
 z171:=Tryz.sizeOf259
 v171:=Tryz.zeroValue259
 t173:=Tryz.underlying261
 a173:=Tryz.isAgg261
 z173:=Tryz.sizeOf261
 v173:=Tryz.zeroValue261
 t212:=Tryz.underlying288
 a212:=Tryz.isAgg288
 z212:=Tryz.sizeOf288
 v212:=Tryz.zeroValue288
 t213:=Tryz.underlying289
 a213:=Tryz.isAgg289
 z213:=Tryz.sizeOf289
 t232:=Tryz.underlying316
 a232:=Tryz.isAgg316
 z232:=Tryz.sizeOf316
 v232:=Tryz.zeroValue316
 t233:=Tryz.underlying317
 a233:=Tryz.isAgg317
 z233:=Tryz.sizeOf317
 v233:=Tryz.zeroValue317
 g17:=by kernel_rfl
 g18:=by kernel_rfl
 g19:=by kernel_rfl
 i0:=by kernel_rfl
 i2:=by kernel_rfl
 i3:=by kernel_rfl
 i4:=by kernel_rfl
 i5:=by kernel_rfl
 i9:=by kernel_rfl
 i20:=by kernel_rfl
 i37:=by kernel_rfl
 i46:=by kernel_rfl
 i51:=by kernel_rfl
 i53:=by kernel_rfl
 i171:=by kernel_rfl
 i173:=by kernel_rfl
 i212:=by kernel_rfl
 i232:=by kernel_rfl
 i233:=by kernel_rfl
 m17:=by kernel_rfl
 m18:=by kernel_rfl
 m19:=by kernel_rfl}
open Go.RowKit Go.Sort Go.Lib in
theorem Tryz.strconv_Itoa(n:Int)(i: -9223372036854775808≤n)(h1:n≤9223372036854775807)(w:World)(h:Lib.TabIs Tryz.prog w "internal/strconv.uint64pow10" .u64 Lib.pow10Tab):
  Calls Tryz.prog 142 #[.int .i64 n] w fun e w'=>e= .returned (.string ⟨(Lib.itoa n).toArray⟩)∧∃k os,w'=grow (w.drewN k) os:=Any.strconv_Itoa A7L n i h1 w h
def Tryz.laysC172_ren:Go.Shelf.Ren:=⟨fun|172=>188|244=>217|245=>218|247=>237|279=>238|280=>239|281=>240|282=>241|287=>273|316=>274|171=>142|205=>275|321=>292|322=>293|243=>176|246=>210|283=>232|284=>233|285=>234|286=>235|129=>170|317=>268|318=>269|319=>270|320=>271|337=>289|338=>290|n=>n,fun|9=>9|3=>3|75=>140|76=>141|4=>4|5=>5|167=>263|37=>95|0=>0|85=>264|2=>2|168=>266|53=>196|175=>290|46=>163|210=>294|127=>144|145=>312|143=>310|21=>21|171=>259|173=>261|212=>288|51=>194|20=>20|213=>289|232=>316|233=>317|80=>99|n=>n,fun|15=>2|16=>3|17=>1|18=>4|19=>5|n=>n⟩
theorem A0o:Go.Proofs.LaysC.n172 Tryz.prog Tryz.laysC172_ren:={
 mixed:=by kernel_rfl
 f129:=Tryz.func170.trans (congrArg some (by kernel_rfl))
 f171:=Tryz.func142.trans (congrArg some (by kernel_rfl))
 f172:=Tryz.func188.trans (congrArg some (by kernel_rfl))
 f205:=Tryz.func275.trans (congrArg some (by kernel_rfl))
 f243:=Tryz.func176.trans (congrArg some (by kernel_rfl))
 f244:=Tryz.func217.trans (congrArg some (by kernel_rfl))
 f245:=Tryz.func218.trans (congrArg some (by kernel_rfl))
 f246:=Tryz.func210.trans (congrArg some (by kernel_rfl))
 f247:=Tryz.func237.trans (congrArg some (by kernel_rfl))
 f279:=Tryz.func238.trans (congrArg some (by kernel_rfl))
 f280:=Tryz.func239.trans (congrArg some (by kernel_rfl))
 f281:=Tryz.func240.trans (congrArg some (by kernel_rfl))
 f282:=Tryz.func241.trans (congrArg some (by kernel_rfl))
 f283:=Tryz.func232.trans (congrArg some (by kernel_rfl))
 f284:=Tryz.func233.trans (congrArg some (by kernel_rfl))
 f285:=Tryz.func234.trans (congrArg some (by kernel_rfl))
 f286:=Tryz.func235.trans (congrArg some (by kernel_rfl))
 f287:=Tryz.func273.trans (congrArg some (by kernel_rfl))
 f316:=Tryz.func274.trans (congrArg some (by kernel_rfl))
 f317:=Tryz.func268.trans (congrArg some (by kernel_rfl))
 f318:=Tryz.func269.trans (congrArg some (by kernel_rfl))
 f319:=Tryz.func270.trans (congrArg some (by kernel_rfl))
 f320:=Tryz.func271.trans (congrArg some (by kernel_rfl))
 f321:=Tryz.func292.trans (congrArg some (by kernel_rfl))
 f322:=Tryz.func293.trans (congrArg some (by kernel_rfl))
 f337:=Tryz.func289.trans (congrArg some (by kernel_rfl))
 f338:=Tryz.func290.trans (congrArg some (by kernel_rfl))
 t0:=Tryz.underlying0
 a0:=Tryz.isAgg0
 z0:=Tryz.sizeOf0
 v0:=Tryz.zeroValue0
 t2:=Tryz.underlying2
 a2:=Tryz.isAgg2
 z2:=Tryz.sizeOf2
 v2:=Tryz.zeroValue2
 t3:=Tryz.underlying3
 a3:=Tryz.isAgg3
 z3:=Tryz.sizeOf3
 v3:=Tryz.zeroValue3
 t4:=Tryz.underlying4
 a4:=Tryz.isAgg4
 z4:=Tryz.sizeOf4
 v4:=Tryz.zeroValue4
 t5:=Tryz.underlying5
 a5:=Tryz.isAgg5
 z5:=Tryz.sizeOf5
 v5:=Tryz.zeroValue5
 t9:=Tryz.underlying9
 a9:=Tryz.isAgg9
 z9:=Tryz.sizeOf9
 v9:=Tryz.zeroValue9
 t20:=Tryz.underlying20
 a20:=Tryz.isAgg20
 z20:=Tryz.sizeOf20
 v20:=Tryz.zeroValue20
 t21:=Tryz.underlying21
 a21:=Tryz.isAgg21
 z21:=Tryz.sizeOf21
 v21:=Tryz.zeroValue21
 t37:=Tryz.underlying95
 a37:=Tryz.isAgg95
 z37:=Tryz.sizeOf95
 v37:=Tryz.zeroValue95
 t46:=Tryz.underlying163
 a46:=Tryz.isAgg163
 z46:=Tryz.sizeOf163
 v46:=Tryz.zeroValue163
 t51:=Tryz.underlying194
 a51:=Tryz.isAgg194
 z51:=Tryz.sizeOf194
 v51:=Tryz.zeroValue194
 t53:=Tryz.underlying196
 a53:=Tryz.isAgg196
 z53:=Tryz.sizeOf196
 v53:=Tryz.zeroValue196
 t75:=Tryz.underlying140
 a75:=Tryz.isAgg140
 z75:=Tryz.sizeOf140
 v75:=Tryz.zeroValue140
 t76:=Tryz.underlying141
 a76:=Tryz.isAgg141
 z76:=Tryz.sizeOf141
 v76:=Tryz.zeroValue141
 t85:=Tryz.underlying264
 a85:=Tryz.isAgg264
 z85:=Tryz.sizeOf264
 v85:=Tryz.zeroValue264
 t127:=Tryz.underlying144
 a127:=Tryz.isAgg144
 z127:=Tryz.sizeOf144
 v127:=Tryz.zeroValue144
 t143:=Tryz.underlying310
 a143:=Tryz.isAgg310
 z143:=Tryz.sizeOf310
 v143:=Tryz.zeroValue310
 t145:=Tryz.underlying312
 a145:=Tryz.isAgg312
 z145:=Tryz.sizeOf312
 v145:=Tryz.zeroValue312
 t167:=Tryz.underlying263
 a167:=Tryz.isAgg263
 z167:=Tryz.sizeOf263
 v167:=Tryz.zeroValue263
 t168:=Tryz.underlying266
 a168:=Tryz.isAgg266
 z168:=Tryz.sizeOf266
 v168:=Tryz.zeroValue266
 t171:=Tryz.underlying259
 a171:=Tryz.isAgg259
 z171:=Tryz.sizeOf259
 v171:=Tryz.zeroValue259
 t173:=Tryz.underlying261
 a173:=Tryz.isAgg261
 z173:=Tryz.sizeOf261
 v173:=Tryz.zeroValue261
 t175:=Tryz.underlying290
 a175:=Tryz.isAgg290
 z175:=Tryz.sizeOf290
 v175:=Tryz.zeroValue290
 t210:=Tryz.underlying294
 a210:=Tryz.isAgg294
 z210:=Tryz.sizeOf294
 v210:=Tryz.zeroValue294
 t212:=Tryz.underlying288
 a212:=Tryz.isAgg288
 z212:=Tryz.sizeOf288
 v212:=Tryz.zeroValue288
 t213:=Tryz.underlying289
 a213:=Tryz.isAgg289
 z213:=Tryz.sizeOf289
 t232:=Tryz.underlying316
 a232:=Tryz.isAgg316
 z232:=Tryz.sizeOf316
 v232:=Tryz.zeroValue316
 t233:=Tryz.underlying317
 a233:=Tryz.isAgg317
 z233:=Tryz.sizeOf317
 v233:=Tryz.zeroValue317
 g15:=by kernel_rfl
 g16:=by kernel_rfl
 g17:=by kernel_rfl
 g18:=by kernel_rfl
 g19:=by kernel_rfl
 t80:=Tryz.underlying99
 a80:=Tryz.isAgg99
 z80:=Tryz.sizeOf99
 v80:=Tryz.zeroValue99
 i0:=by kernel_rfl
 i2:=by kernel_rfl
 i3:=by kernel_rfl
 i4:=by kernel_rfl
 i5:=by kernel_rfl
 i9:=by kernel_rfl
 i20:=by kernel_rfl
 i21:=by kernel_rfl
 i37:=by kernel_rfl
 i46:=by kernel_rfl
 i51:=by kernel_rfl
 i53:=by kernel_rfl
 i75:=by kernel_rfl
 i76:=by kernel_rfl
 i80:=by kernel_rfl
 i85:=by kernel_rfl
 i127:=by kernel_rfl
 i143:=by kernel_rfl
 i145:=by kernel_rfl
 i167:=by kernel_rfl
 i168:=by kernel_rfl
 i171:=by kernel_rfl
 i173:=by kernel_rfl
 i175:=by kernel_rfl
 i210:=by kernel_rfl
 i212:=by kernel_rfl
 i232:=by kernel_rfl
 i233:=by kernel_rfl
 m15:=by kernel_rfl
 m16:=by kernel_rfl
 m17:=by kernel_rfl
 m18:=by kernel_rfl
 m19:=by kernel_rfl
 c0:=by kernel_rfl
 c2:=by kernel_rfl
 c3:=by kernel_rfl
 c4:=by kernel_rfl
 c5:=by kernel_rfl
 c9:=by kernel_rfl
 c20:=by kernel_rfl
 c21:=by kernel_rfl
 c37:=by kernel_rfl
 c46:=by kernel_rfl
 c51:=by kernel_rfl
 c53:=by kernel_rfl
 c75:=by kernel_rfl
 c76:=by kernel_rfl
 c80:=by kernel_rfl
 c85:=by kernel_rfl
 c127:=by kernel_rfl
 c143:=by kernel_rfl
 c145:=by kernel_rfl
 c167:=by kernel_rfl
 c168:=by kernel_rfl
 c171:=by kernel_rfl
 c173:=by kernel_rfl
 c175:=by kernel_rfl
 c210:=by kernel_rfl
 c212:=by kernel_rfl
 c213:=by kernel_rfl
 c232:=by kernel_rfl
 c233:=by kernel_rfl}
open Go.RowKit in
theorem Tryz.strconv_Atoi_ok(s:ByteArray)(i:s.size≤9223372036854775806)(v:Int)(h:Lib.atoiAll s.data.toList= .ok v)(w:World):
  Calls Tryz.prog 188 #[.string s] w fun e w'=>e= .returned (.tuple #[.int .i64 v,.nilIface])∧(w'=w∨∃t,w'=Lib.bytesWorld w 5 t):=Any.strconv_Atoi_ok A0o s i v h w
open Go.RowKit in
theorem Tryz.strconv_Atoi_syntax(s:ByteArray)(i:s.size≤281474976710656)(h:Lib.atoiAll s.data.toList=Lib.atoiAll [])(ev:Value)(w:World)(hv:w.cell? ⟨2,0,none⟩=some ev)(j:ev= .nilIface∨∃te pe,ev= .iface te pe):
  Calls Tryz.prog 188 #[.string s] w fun e w'=>∃N,e= .returned (.tuple #[.int .i64 (0),.iface 266 (.pointer (some ⟨N,0,none⟩))])∧w.heap.size≤N∧w'.heap[N]? =some (.cells #[.string ⟨#[65,116,111,105]⟩,.string s,ev] 294 (0,0))∧Below w.heap.size w w':=Any.strconv_Atoi_syntax A0o s i h ev w hv j
open Go.RowKit in
theorem Tryz.strconv_Atoi_range(s:ByteArray)(i:s.size≤281474976710656)(h:Lib.atoiAll s.data.toList= .range)(ev:Value)(w:World)(hv:w.cell? ⟨3,0,none⟩=some ev)(j:ev= .nilIface∨∃te pe,ev= .iface te pe):
  Calls Tryz.prog 188 #[.string s] w fun e w'=>∃N,e= .returned (.tuple #[.int .i64 (Lib.atoiSat s.data.toList),.iface 266 (.pointer (some ⟨N,0,none⟩))])∧w.heap.size≤N∧w'.heap[N]? =some (.cells #[.string ⟨#[65,116,111,105]⟩,.string s,ev] 294 (0,0))∧Below w.heap.size w w':=Any.strconv_Atoi_range A0o s i h ev w hv j
def Tryz.lays219_ren:Go.Shelf.Ren:=⟨fun|219=>236|217=>173|225=>214|224=>213|267=>272|266=>209|314=>291|n=>n,fun|9=>9|3=>3|4=>4|5=>5|46=>163|146=>307|51=>194|n=>n,fun|1=>0|n=>n⟩
theorem A9k:Go.Proofs.Lays.n219 Tryz.prog Tryz.lays219_ren:={
 mixed:=by kernel_rfl
 f217:=Tryz.func173.trans (congrArg some (by kernel_rfl))
 f219:=Tryz.func236.trans (congrArg some (by kernel_rfl))
 f224:=Tryz.func213.trans (congrArg some (by kernel_rfl))
 f225:=Tryz.func214.trans (congrArg some (by kernel_rfl))
 f266:=Tryz.func209.trans (congrArg some (by kernel_rfl))
 f267:=Tryz.func272.trans (congrArg some (by kernel_rfl))
 f314:=Tryz.func291.trans (congrArg some (by kernel_rfl))
 t3:=Tryz.underlying3
 a3:=Tryz.isAgg3
 z3:=Tryz.sizeOf3
 v3:=Tryz.zeroValue3
 t4:=Tryz.underlying4
 a4:=Tryz.isAgg4
 z4:=Tryz.sizeOf4
 v4:=Tryz.zeroValue4
 t5:=Tryz.underlying5
 a5:=Tryz.isAgg5
 z5:=Tryz.sizeOf5
 v5:=Tryz.zeroValue5
 t9:=Tryz.underlying9
 a9:=Tryz.isAgg9
 z9:=Tryz.sizeOf9
 v9:=Tryz.zeroValue9
 t46:=Tryz.underlying163
 a46:=Tryz.isAgg163
 z46:=Tryz.sizeOf163
 v46:=Tryz.zeroValue163
 t51:=Tryz.underlying194
 a51:=Tryz.isAgg194
 z51:=Tryz.sizeOf194
 v51:=Tryz.zeroValue194
 t146:=Tryz.underlying307
 a146:=Tryz.isAgg307
 z146:=Tryz.sizeOf307
 v146:=Tryz.zeroValue307
 g1:=by kernel_rfl}
open Go.RowKit Go.Lib in
theorem Tryz.stringslite_Index_one(s:ByteArray)(c:UInt8)(w:World):
  Calls Tryz.prog 236 #[.string s,.string ⟨#[c]⟩] w fun e w'=>e= .returned (.int .i64 (Lib.indexByte s.data.toList c))∧w'=w:=Any.stringslite_Index_one A9k s c w
def Tryz.lays99_ren:Go.Shelf.Ren:=⟨fun|99=>186|206=>211|n=>n,fun|9=>9|4=>4|3=>3|n=>n,fun|n=>n⟩
theorem B1c:Go.Proofs.Lays.n99 Tryz.prog Tryz.lays99_ren:={
 mixed:=by kernel_rfl
 f99:=Tryz.func186.trans (congrArg some (by kernel_rfl))
 f206:=Tryz.func211.trans (congrArg some (by kernel_rfl))
 t3:=Tryz.underlying3
 a3:=Tryz.isAgg3
 z3:=Tryz.sizeOf3
 v3:=Tryz.zeroValue3
 t4:=Tryz.underlying4
 a4:=Tryz.isAgg4
 z4:=Tryz.sizeOf4
 v4:=Tryz.zeroValue4
 t9:=Tryz.underlying9
 a9:=Tryz.isAgg9
 z9:=Tryz.sizeOf9
 v9:=Tryz.zeroValue9}
open Go.RowKit Go.Lib in
theorem Tryz.strings_HasPrefix(s p:ByteArray)(w:World):
  Calls Tryz.prog 186 #[.string s,.string p] w fun e w'=>e= .returned (.bool (Lib.hasPrefix s.data.toList p.data.toList))∧w'=w:=Any.strings_HasPrefix B1c s p w
def Tryz.lays100_ren:Go.Shelf.Ren:=⟨fun|100=>149|207=>184|n=>n,fun|9=>9|4=>4|3=>3|n=>n,fun|n=>n⟩
theorem A9b:Go.Proofs.Lays.n100 Tryz.prog Tryz.lays100_ren:={
 mixed:=by kernel_rfl
 f100:=Tryz.func149.trans (congrArg some (by kernel_rfl))
 f207:=Tryz.func184.trans (congrArg some (by kernel_rfl))
 t3:=Tryz.underlying3
 a3:=Tryz.isAgg3
 z3:=Tryz.sizeOf3
 v3:=Tryz.zeroValue3
 t4:=Tryz.underlying4
 a4:=Tryz.isAgg4
 z4:=Tryz.sizeOf4
 v4:=Tryz.zeroValue4
 t9:=Tryz.underlying9
 a9:=Tryz.isAgg9
 z9:=Tryz.sizeOf9
 v9:=Tryz.zeroValue9}
open Go.RowKit Go.Lib in
theorem Tryz.strings_HasSuffix(s p:ByteArray)(w:World)(hs:s.size≤9223372036854775807):
  Calls Tryz.prog 149 #[.string s,.string p] w fun e w'=>e= .returned (.bool (Lib.hasSuffix s.data.toList p.data.toList))∧w'=w:=Any.strings_HasSuffix A9b s p w hs
def Tryz.lays101_ren:Go.Shelf.Ren:=⟨fun|101=>185|208=>215|206=>211|n=>n,fun|9=>9|4=>4|3=>3|n=>n,fun|n=>n⟩
theorem A9c:Go.Proofs.Lays.n101 Tryz.prog Tryz.lays101_ren:={
 mixed:=by kernel_rfl
 f101:=Tryz.func185.trans (congrArg some (by kernel_rfl))
 f206:=Tryz.func211.trans (congrArg some (by kernel_rfl))
 f208:=Tryz.func215.trans (congrArg some (by kernel_rfl))
 t3:=Tryz.underlying3
 a3:=Tryz.isAgg3
 z3:=Tryz.sizeOf3
 v3:=Tryz.zeroValue3
 t4:=Tryz.underlying4
 a4:=Tryz.isAgg4
 z4:=Tryz.sizeOf4
 v4:=Tryz.zeroValue4
 t9:=Tryz.underlying9
 a9:=Tryz.isAgg9
 z9:=Tryz.sizeOf9
 v9:=Tryz.zeroValue9}
open Go.RowKit Go.Lib in
theorem Tryz.strings_TrimPrefix(s p:ByteArray)(w:World):
  Calls Tryz.prog 185 #[.string s,.string p] w fun e w'=>e= .returned (.string ⟨(Lib.trimPrefix s.data.toList p.data.toList).toArray⟩)∧w'=w:=Any.strings_TrimPrefix A9c s p w
def Tryz.lays102_ren:Go.Shelf.Ren:=⟨fun|102=>148|209=>183|207=>184|n=>n,fun|9=>9|4=>4|3=>3|n=>n,fun|n=>n⟩
theorem A9d:Go.Proofs.Lays.n102 Tryz.prog Tryz.lays102_ren:={
 mixed:=by kernel_rfl
 f102:=Tryz.func148.trans (congrArg some (by kernel_rfl))
 f207:=Tryz.func184.trans (congrArg some (by kernel_rfl))
 f209:=Tryz.func183.trans (congrArg some (by kernel_rfl))
 t3:=Tryz.underlying3
 a3:=Tryz.isAgg3
 z3:=Tryz.sizeOf3
 v3:=Tryz.zeroValue3
 t4:=Tryz.underlying4
 a4:=Tryz.isAgg4
 z4:=Tryz.sizeOf4
 v4:=Tryz.zeroValue4
 t9:=Tryz.underlying9
 a9:=Tryz.isAgg9
 z9:=Tryz.sizeOf9
 v9:=Tryz.zeroValue9}
open Go.RowKit Go.Lib in
theorem Tryz.strings_TrimSuffix(s p:ByteArray)(w:World)(hs:s.size≤9223372036854775807):
  Calls Tryz.prog 148 #[.string s,.string p] w fun e w'=>e= .returned (.string ⟨(Lib.trimSuffix s.data.toList p.data.toList).toArray⟩)∧w'=w:=Any.strings_TrimSuffix A9d s p w hs
def Tryz.lays153_ren:Go.Shelf.Ren:=⟨fun|153=>146|152=>178|226=>179|227=>180|228=>181|137=>138|119=>212|224=>213|225=>214|217=>173|266=>209|n=>n,fun|9=>9|3=>3|4=>4|5=>5|21=>21|117=>203|116=>202|0=>0|46=>163|124=>234|n=>n,fun|n=>n⟩
theorem A9j:Go.Proofs.Lays.n153 Tryz.prog Tryz.lays153_ren:={
 mixed:=by kernel_rfl
 f119:=Tryz.func212.trans (congrArg some (by kernel_rfl))
 f137:=Tryz.func138.trans (congrArg some (by kernel_rfl))
 f152:=Tryz.func178.trans (congrArg some (by kernel_rfl))
 f153:=Tryz.func146.trans (congrArg some (by kernel_rfl))
 f217:=Tryz.func173.trans (congrArg some (by kernel_rfl))
 f224:=Tryz.func213.trans (congrArg some (by kernel_rfl))
 f225:=Tryz.func214.trans (congrArg some (by kernel_rfl))
 f226:=Tryz.func179.trans (congrArg some (by kernel_rfl))
 f227:=Tryz.func180.trans (congrArg some (by kernel_rfl))
 f228:=Tryz.func181.trans (congrArg some (by kernel_rfl))
 f266:=Tryz.func209.trans (congrArg some (by kernel_rfl))
 t0:=Tryz.underlying0
 a0:=Tryz.isAgg0
 z0:=Tryz.sizeOf0
 v0:=Tryz.zeroValue0
 t3:=Tryz.underlying3
 a3:=Tryz.isAgg3
 z3:=Tryz.sizeOf3
 v3:=Tryz.zeroValue3
 t4:=Tryz.underlying4
 a4:=Tryz.isAgg4
 z4:=Tryz.sizeOf4
 v4:=Tryz.zeroValue4
 t5:=Tryz.underlying5
 a5:=Tryz.isAgg5
 z5:=Tryz.sizeOf5
 v5:=Tryz.zeroValue5
 t9:=Tryz.underlying9
 a9:=Tryz.isAgg9
 z9:=Tryz.sizeOf9
 v9:=Tryz.zeroValue9
 t21:=Tryz.underlying21
 a21:=Tryz.isAgg21
 z21:=Tryz.sizeOf21
 v21:=Tryz.zeroValue21
 t46:=Tryz.underlying163
 a46:=Tryz.isAgg163
 z46:=Tryz.sizeOf163
 v46:=Tryz.zeroValue163
 t116:=Tryz.underlying202
 a116:=Tryz.isAgg202
 z116:=Tryz.sizeOf202
 t117:=Tryz.underlying203
 a117:=Tryz.isAgg203
 z117:=Tryz.sizeOf203
 v117:=Tryz.zeroValue203
 t124:=Tryz.underlying234
 a124:=Tryz.isAgg234
 z124:=Tryz.sizeOf234
 v124:=Tryz.zeroValue234}
def Tryz.lays150_ren:Go.Shelf.Ren:=⟨fun|150=>137|153=>146|152=>178|226=>179|227=>180|228=>181|137=>138|119=>212|224=>213|225=>214|217=>173|266=>209|n=>n,fun|9=>9|4=>4|3=>3|5=>5|21=>21|117=>203|116=>202|0=>0|46=>163|124=>234|n=>n,fun|n=>n⟩
theorem A9i:Go.Proofs.Lays.n150 Tryz.prog Tryz.lays150_ren:={
 mixed:=by kernel_rfl
 f119:=Tryz.func212.trans (congrArg some (by kernel_rfl))
 f137:=Tryz.func138.trans (congrArg some (by kernel_rfl))
 f150:=Tryz.func137.trans (congrArg some (by kernel_rfl))
 f152:=Tryz.func178.trans (congrArg some (by kernel_rfl))
 f153:=Tryz.func146.trans (congrArg some (by kernel_rfl))
 f217:=Tryz.func173.trans (congrArg some (by kernel_rfl))
 f224:=Tryz.func213.trans (congrArg some (by kernel_rfl))
 f225:=Tryz.func214.trans (congrArg some (by kernel_rfl))
 f226:=Tryz.func179.trans (congrArg some (by kernel_rfl))
 f227:=Tryz.func180.trans (congrArg some (by kernel_rfl))
 f228:=Tryz.func181.trans (congrArg some (by kernel_rfl))
 f266:=Tryz.func209.trans (congrArg some (by kernel_rfl))
 t0:=Tryz.underlying0
 a0:=Tryz.isAgg0
 z0:=Tryz.sizeOf0
 v0:=Tryz.zeroValue0
 t3:=Tryz.underlying3
 a3:=Tryz.isAgg3
 z3:=Tryz.sizeOf3
 v3:=Tryz.zeroValue3
 t4:=Tryz.underlying4
 a4:=Tryz.isAgg4
 z4:=Tryz.sizeOf4
 v4:=Tryz.zeroValue4
 t5:=Tryz.underlying5
 a5:=Tryz.isAgg5
 z5:=Tryz.sizeOf5
 v5:=Tryz.zeroValue5
 t9:=Tryz.underlying9
 a9:=Tryz.isAgg9
 z9:=Tryz.sizeOf9
 v9:=Tryz.zeroValue9
 t21:=Tryz.underlying21
 a21:=Tryz.isAgg21
 z21:=Tryz.sizeOf21
 v21:=Tryz.zeroValue21
 t46:=Tryz.underlying163
 a46:=Tryz.isAgg163
 z46:=Tryz.sizeOf163
 v46:=Tryz.zeroValue163
 t116:=Tryz.underlying202
 a116:=Tryz.isAgg202
 z116:=Tryz.sizeOf202
 t117:=Tryz.underlying203
 a117:=Tryz.isAgg203
 z117:=Tryz.sizeOf203
 v117:=Tryz.zeroValue203
 t124:=Tryz.underlying234
 a124:=Tryz.isAgg234
 z124:=Tryz.sizeOf234
 v124:=Tryz.zeroValue234}
open Go.RowKit Go.Lib in
theorem Tryz.strings_IndexAny_laid(s h:ByteArray)(w:World)(hs:s.size<4294967281)(i:h.size<4294967281)(m: ∀(j:Nat) b,s.data.toList[j]? =some b→b.toNat<128)(o: ∀(j:Nat) b,h.data.toList[j]? =some b→b.toNat<128):
  Calls Tryz.prog 146 #[.string s,.string h] w fun e w'=>e= .returned (.int .i64 (Lib.indexAny s.data.toList h.data.toList))∧Below w.heap.size w w':=Any.strings_IndexAny_laid A9j (by kernel_rfl) s h w hs i m o
open Go.RowKit Go.Lib in
theorem Tryz.strings_ContainsAny_laid(s h:ByteArray)(w:World)(hs:s.size<4294967281)(i:h.size<4294967281)(m: ∀(j:Nat) b,s.data.toList[j]? =some b→b.toNat<128)(o: ∀(j:Nat) b,h.data.toList[j]? =some b→b.toNat<128):
  Calls Tryz.prog 137 #[.string s,.string h] w fun e w'=>e= .returned (.bool (Lib.containsAny s.data.toList h.data.toList))∧Below w.heap.size w w':=Any.strings_ContainsAny_laid A9i (by kernel_rfl) s h w hs i m o
end Go.Proofs
namespace Go.Lexs
open Go.Av
theorem B9m(s:ByteArray)(i:Int):S9 s i=nth (B s) i.toNat:=rfl
end Go.Lexs
namespace Go.Lin
open Go Go.Av Go.Lexs
abbrev dec(n:Nat):List UInt8:=Lib.decDigits n
theorem A4V{n:Nat}(h:n<10):dec n= [UInt8.ofNat (48+n)]:=by rw[dec,Lib.decDigits,dif_pos h]
theorem A6P{n:Nat}(h: ¬n<10):dec n=dec (n / 10)++[UInt8.ofNat (48+n % 10)]:=by rw[dec,Lib.decDigits,dif_neg h]
theorem A0z{d:Nat}(h:d<10):(UInt8.ofNat (48+d)).toNat=48+d:=by
 rw[UInt8.toNat_ofNat'];omega
theorem P8(n:Nat): ∀c∈dec n,48≤c.toNat∧c.toNat≤57:=by
 induction n using Nat.strongRecOn with
 |ind n i=>
  intro c hc;by_cases h:n<10
  ·rw[A4V h,D1i]at hc;subst hc;rw[A0z h];omega
  ·rw[A6P h]at hc;rcases D1h.1 hc with g|g
   ·exact i (n / 10) (by omega) c g
   ·rw[D1i]at g;subst g;rw[A0z (by omega)];omega
theorem A8t(n:Nat):dec n≠[]:=by
 by_cases h:n<10
 ·rw[A4V h];simp
 ·rw[A6P h];simp
theorem A5Z(k n:Nat)(h:n<10 ^ (k+1)):(dec n).length≤k+1:=by
 induction k generalizing n with
 |zero=>rw[A4V (by omega)];simp
 |succ k i=>
  by_cases hn:n<10
  ·rw[A4V hn];simp
  ·rw[A6P hn,D1N,D1P];have:=i (n / 10) (by rw[Nat.pow_succ]at h;omega);omega
theorem A6Q(l:List UInt8)(d:Nat)(hd:d<10): ∀(i u:Nat),Lib.parseUint10 i l= .ok u→u*10+d<18446744073709551616→Lib.parseUint10 i (l++[UInt8.ofNat (48+d)])= .ok (u*10+d):=by
 induction l with
 |nil=>
  intro i u h j;simp only[Lib.parseUint10]at h;injection h with h
  subst h;simp only[D2T,Lib.parseUint10,A0z hd];rw[if_pos (by omega),if_neg (by omega),if_neg (by omega)]
  congr 1;omega
 |cons c l m=>
  intro i u h j;simp only[Lib.parseUint10,D2S]at h⊢;split at h
  ·rename_i h1;rw[if_pos h1];split at h
   ·cases h
   ·rename_i o;rw[if_neg o];split at h
    ·cases h
    ·rename_i p;rw[if_neg p];exact m _ u h j
  ·cases h
theorem B4X(n:Nat)(h:n<18446744073709551616):Lib.parseUint10 0 (dec n)= .ok n:=by
 induction n using Nat.strongRecOn with
 |ind n i=>
  by_cases h1:n<10
  ·rw[A4V h1];have:=A6Q [] n h1 0 0 rfl (by omega);simpa using this
  ·rw[A6P h1];have:=A6Q (dec (n / 10)) (n % 10) (by omega) 0 (n / 10) (i _ (by omega) (by omega)) (by omega);rw[this];congr 1;omega
theorem B0Q(n:Nat)(h:n<9223372036854775808):Lib.atoiAll (dec n)= .ok (n:Int):=by
 cases hd:dec n with
 |nil=>exact absurd hd (A8t n)
 |cons c r=>
  have hc:=P8 n c (by rw[hd];exact D1S ..);have hp:=B4X n (by omega);rw[hd]at hp;unfold Lib.atoiAll;simp only[];rw[if_neg (by omega)];have hm:Lib.parseMag (c::r)= .ok n:=by unfold Lib.parseMag;rw[if_neg (by simp)];exact hp
  rw[hm];simp only[];rw[if_neg (by omega),if_neg (by omega),if_neg (by omega)]
def B9n(l:List UInt8):Int:=l.foldl (fun n c=>10*n+(c.toNat:Int)-48) 0
def B9o(l:List UInt8):Int:=B9n (l.take 14)
theorem B6U(n:Nat):B9n (dec n)=n:=by
 induction n using Nat.strongRecOn with
 |ind n i=>
  by_cases h:n<10
  ·rw[A4V h];simp only[B9n,List.foldl_cons,List.foldl_nil,A0z h];omega
  ·rw[A6P h];have e:=i (n / 10) (by omega);unfold B9n at e⊢;rw[D19,e];simp only[List.foldl_cons,List.foldl_nil,A0z (show n % 10<10 by omega)];omega
theorem B0R(n:Nat)(h:n<100000000000000):B9o (dec n)=n:=by
 unfold B9o;rw[D1W (A5Z 13 n (by omega)),B6U]
def U5(f:Bool)(t:LTm):List UInt8:=(if t.c<0 then [45]else if f=true then []else [43])++((if t.c.natAbs=1 then []else dec t.c.natAbs++[42])++B t.v)
def L6:Bool→List LTm→List UInt8
 |_,[]=>[]
 |f,t::l=>U5 f t++L6 false l
def A0N(f:Bool)(k:Int):List UInt8:=(if k<0 then [45]else if f=true then []else [43])++dec k.natAbs
def R8(a:LinV):List UInt8:=if a.t= []∨a.k≠0 then A0N a.t.isEmpty a.k else []
def M2(a:LinV):List UInt8:=L6 true a.t++R8 a
def F5(a:LinV):List UInt8:=M2 a++if a.e=true then [61,48]else [62,61,48]
theorem B0S(l:List LTm)(t:LTm): ∀f,L6 f (l++[t])=L6 f l++U5 (f&&l.isEmpty) t:=by
 induction l with
 |nil=>intro f;simp[L6]
 |cons x l h=>intro f;simp[L6,h]
def sgn(c:UInt8):Bool:=c==43||c==45
def P0(l:List UInt8):List (List UInt8):=match l with
 | []=>[]
 |x::r=>(x::r.takeWhile (!sgn ·))::P0 (r.dropWhile (!sgn ·))
termination_by l.length
decreasing_by
 have:=(List.dropWhile_sublist (!sgn ·) (l:=r)).length_le;simp only[D1M];omega
theorem A23:P0 []= []:=by unfold P0;rfl
theorem A10(x:UInt8)(r:List UInt8):P0 (x::r)=(x::r.takeWhile (!sgn ·))::P0 (r.dropWhile (!sgn ·)):=by rw[P0]
def Sg(l:List UInt8):Prop:=∀c r,l=c::r→sgn c=true
theorem S3{p:UInt8→Bool}{l R:List UInt8}(h: ∀c∈l,p c=true)(j: ∀c r,R=c::r→p c=false):(l++R).takeWhile p=l∧(l++R).dropWhile p=R:=by
 induction l with
 |nil=>
  cases R with
  |nil=>simp
  |cons c r=>simp[j c r rfl]
 |cons x l m=>
  have h1:=h x (D1S ..);have i:=m (fun c hc=>h c (D1Z _ hc));simp[h1,i.1,i.2]
theorem A6R{x:UInt8}{l R:List UInt8}(h: ∀c∈l,sgn c=false)(i:Sg R):P0 (x::(l++R))=(x::l)::P0 R:=by
 have:=S3 (p:=(!sgn ·)) (l:=l) (R:=R) (fun c hc=>by simp[h c hc]) (fun c r e=>by simp[i c r e]);rw[A10,this.1,this.2]
def A0O(l:List UInt8):Option (List UInt8×List UInt8):=if(42:UInt8)∈l then some (l.takeWhile (· != 42),(l.dropWhile (· != 42)).drop 1)else none
def P9(l:List UInt8):Bool:=decide (l≠[])&&V9 (nth l 0)
def l8(x:List UInt8):Bool×List UInt8:=
 let b:=Lib.trimPrefix x [43]
 if Lib.hasPrefix b [45]=true then(true,b.drop 1)else(false,b)
def A0G(b:List UInt8):Option (List UInt8×List UInt8):=match A0O b with
 |some (c,n)=>some (c,n)
 |none=>if P9 b=true then some (b,[])else if b= []then none else some ([49],b)
def M8(x:List UInt8):Option (List UInt8×Int):=match A0G (l8 x).2 with
 |none=>none
 |some (c,n)=>match Lib.atoiAll c with
  | .ok v=>some (n,IntKind.i64.wrap ((if(l8 x).1=true then-1 else 1)*v))
  |_=>none
def A7j(x:List UInt8):Bool×List UInt8:=match x with
 | []=>(false,[])
 |c::r=>if c=45 then(true,r)else if c=43 then(false,r)else(false,c::r)
def A24(x:List UInt8):List UInt8×Int:=
 let b:=(A7j x).2
 let p:Int×List UInt8:=match A0O b with
  |some (c,n)=>(B9o c,n)
  |none=>(1,b)
 let q:Int×List UInt8:=if p.2= []∨P9 p.2=true then(B9o p.2,[])else p
 (q.2,if(A7j x).1=true then-q.1 else q.1)
def A7C(a:LinV)(p:List UInt8×Int):LinV:=if p.1= []then {a with k:=p.2}else {a with t:=a.t++[⟨S p.1,p.2⟩]}
theorem B3M{p:Int→Bool}{l:List UInt8}(h:l.all (ofB p)=true): ∀c∈l,p (c.toNat:Int)=true:=fun c hc=>D1s.1 h c hc
theorem A6S{l:List UInt8}(h:I2 l=true): ∀c∈l,33≤c.toNat∧c.toNat≤126∧c.toNat≠43∧c.toNat≠45∧c.toNat≠42∧c.toNat≠62∧c.toNat≠61:=fun c hc=>by
 unfold I2 at h;simp only[D1U]at h;have:=(A7f _).1 (B3M h.2 c hc);omega
theorem A3d{l:List UInt8}(h:I2 l=true):l≠[]:=by
 unfold I2 at h;simp only[D1U,D1d]at h;exact h.1.1.1
theorem A7k{l:List UInt8}(h:I2 l=true):P9 l=false:=by
 unfold I2 at h;simp only[D1U,Bool.not_eq_true']at h;unfold P9;rw[h.1.2,Bool.and_false]
theorem C3i{c:UInt8}(h1:c.toNat≠43)(h:c.toNat≠45):sgn c=false:=by
 unfold sgn;simp only[Bool.or_eq_false_iff,beq_eq_false_iff_ne];exact⟨fun e=>h1 (by rw[e];rfl),fun e=>h (by rw[e];rfl)⟩
def A1g(t:LTm):List UInt8:=(if t.c.natAbs=1 then []else dec t.c.natAbs++[42])++B t.v
theorem B3N(t:LTm)(h:I2 (B t.v)=true):A1g t≠[]:=by
 unfold A1g;have:=A3d h;intro e;exact this (List.append_eq_nil_iff.1 e).2
theorem A11(t:LTm)(h:I2 (B t.v)=true): ∀c∈A1g t,c.toNat≠43∧c.toNat≠45∧c.toNat≠62∧c.toNat≠61:=fun c hc=>by
 unfold A1g at hc;rcases D1h.1 hc with g|g
 ·split at g
  ·cases g
  ·rcases D1h.1 g with g|g
   ·have:=P8 _ c g;omega
   ·rw[D1i]at g;subst g;decide
 ·have:=A6S h c g;omega
theorem A42(s:List UInt8)(b R:List UInt8)(hs:s= []∨s= [43]∨s= [45])(hb:b≠[])(hm: ∀c∈b,c.toNat≠43∧c.toNat≠45)(h:Sg R):P0 (s++b++R)=(s++b)::P0 R:=by
 have hn: ∀c∈b,sgn c=false:=fun c hc=>C3i (hm c hc).1 (hm c hc).2;rcases hs with rfl|hs
 ·cases b with
  |nil=>exact absurd rfl hb
  |cons x b=>exact A6R (x:=x) (fun c hc=>hn c (D1Z _ hc)) h
 ·rcases hs with rfl|rfl<;>exact A6R hn h
theorem sign_or(f:Bool)(c:Int):(if c<0 then [45]else if f=true then([]:List UInt8)else [43])= []∨(if c<0 then [45]else if f=true then([]:List UInt8)else [43])= [43]∨(if c<0 then [45]else if f=true then([]:List UInt8)else [43])= [45]:=by
 split
 ·exact .inr (.inr rfl)
 ·split
  ·exact .inl rfl
  ·exact .inr (.inl rfl)
theorem B3O(f:Bool)(c:Int){b:List UInt8}(hb:b≠[])(hm: ∀x∈b,x.toNat≠43∧x.toNat≠45):
    l8 ((if c<0 then [45]else if f=true then []else [43])++b)=(decide (c<0),b)∧A7j ((if c<0 then [45]else if f=true then []else [43])++b)=(decide (c<0),b):=by
  cases b with
  |nil=>exact absurd rfl hb
  |cons x b=>
    have hx:=hm x (D1S ..);have j:x≠43:=fun e=>hx.1 (by rw[e];rfl);have i:x≠45:=fun e=>hx.2 (by rw[e];rfl);by_cases h:c<0
    · rw[if_pos h,D1J h]
      constructor
      · simp[l8,Lib.trimPrefix,Lib.hasPrefix]
      · simp[A7j]
    · rw[if_neg h,D1K h]
      cases f with
      | true => constructor
                · simp[l8,Lib.trimPrefix,Lib.hasPrefix,j.symm,i.symm]
                · simp[A7j,j,i]
      | false => constructor
                 · simp[l8,Lib.trimPrefix,Lib.hasPrefix,i.symm]
                 · simp[A7j]
theorem B6V{d n:List UInt8}(h: ∀c∈d,c.toNat≠42):A0O (d++[42]++n)=some (d,n):=by
 unfold A0O;have e:=S3 (p:=(· != 42)) (l:=d) (R:=42::n) (fun c hc=>by
  have:=h c hc;simp only[bne_iff_ne,ne_eq];intro e;exact this (by rw[e];rfl)) (fun c r e=>by cases e;decide)
 rw[if_pos (by simp),D15,List.singleton_append,e.1,e.2];rfl
theorem B3P{d:List UInt8}(h: ∀c∈d,c.toNat≠42):A0O d=none:=by
 unfold A0O;rw[if_neg (fun hm=>h _ hm rfl)]
theorem signed{c:Int}:(if decide (c<0)=true then-1 else 1)*(c.natAbs:Int)=c:=by
 by_cases h:c<0
 ·rw[D1J h,if_pos rfl];omega
 ·rw[D1K h,if_neg (by decide)];omega
theorem A8u{c:Int}:(if decide (c<0)=true then-(c.natAbs:Int)else(c.natAbs:Int))=c:=by
 by_cases h:c<0
 ·rw[D1J h,if_pos rfl];omega
 ·rw[D1K h,if_neg (by decide)];omega
theorem A8v{n:Int}(h: -9223372036854775808≤n)(h1:n≤9223372036854775807):IntKind.i64.wrap n=n:=by simp(disch:=omega) only[A4]
theorem B19(f:Bool)(t:LTm)(hn:I2 (B t.v)=true)(j:t.c≠0)(hc:t.c.natAbs≤1048576):M8 (U5 f t)=some (B t.v,t.c)∧A24 (U5 f t)=(B t.v,t.c):=by
 have hb:=B3O f t.c (B3N t hn) (fun x hx=>⟨(A11 t hn x hx).1,(A11 t hn x hx).2.1⟩);have e:U5 f t=(if t.c<0 then [45]else if f=true then []else [43])++A1g t:=rfl;unfold M8 A24;rw[e,hb.1,hb.2];by_cases h1:t.c.natAbs=1
 ·have i:A1g t=B t.v:=by unfold A1g;rw[if_pos h1,D2T]
  have h:A0O (B t.v)=none:=B3P fun c hc=>(A6S hn c hc).2.2.2.2.1;have e1:Lib.atoiAll [49]= .ok 1:=by decide
  have e2:(if decide (t.c<0)=true then-1 else 1)*(1:Int)=t.c:=by have:=signed (c:=t.c);rwa [h1]at this
  have e3:(if decide (t.c<0)=true then-(1:Int)else 1)=t.c:=by have:=A8u (c:=t.c);rwa [h1]at this
  simp only[i,A0G,h,A7k hn,if_neg (A3d hn),D1X,if_false,e1,e2];refine⟨by rw[A8v (by omega) (by omega)],?_⟩;rw[if_neg (by simp[A3d hn])];simp only[e3]
 ·have i:A1g t=dec t.c.natAbs++[42]++B t.v:=by unfold A1g;rw[if_neg h1]
  have h:A0O (dec t.c.natAbs++[42]++B t.v)=some (dec t.c.natAbs,B t.v):=B6V fun c hc=>by have:=P8 _ c hc;omega
  simp only[i,A0G,h,B0Q t.c.natAbs (by omega),signed];refine⟨by rw[A8v (by omega) (by omega)],?_⟩;rw[if_neg (by simp[A3d hn,A7k hn])];simp only[B0R t.c.natAbs (by omega),A8u]
theorem B6W(n:Nat):P9 (dec n)=true:=by
 unfold P9;cases h:dec n with
 |nil=>exact absurd h (A8t n)
 |cons c r=>
  have:=P8 n c (by rw[h];exact D1S ..);have e:nth (c::r) 0=(c.toNat:Int):=rfl;rw[e];simp[V9];omega
theorem A2U(f:Bool)(k:Int)(hk:k.natAbs≤1099511627776):M8 (A0N f k)=some ([],k)∧A24 (A0N f k)=([],k):=by
 have hm: ∀x∈dec k.natAbs,x.toNat≠43∧x.toNat≠45:=fun x hx=>by have:=P8 _ x hx;omega
 have hb:=B3O f k (A8t k.natAbs) hm;have e:A0N f k=(if k<0 then [45]else if f=true then []else [43])++dec k.natAbs:=rfl;have h:A0O (dec k.natAbs)=none:=B3P fun c hc=>by have:=P8 _ c hc;omega
 unfold M8 A24;rw[e,hb.1,hb.2];simp only[A0G,h,B6W,if_true,B0Q k.natAbs (by omega),signed];refine⟨by rw[A8v (by omega) (by omega)],?_⟩;rw[if_pos (.inr trivial)];simp only[B0R k.natAbs (by omega),A8u]
theorem A12{l:List LTm}(h:s9 l=true){i:Nat}(m:i<l.length):I2 (B l[i].v)=true∧l[i].c≠0∧l[i].c.natAbs≤1048576∧(∀j:i-1<l.length,0<i→q9 l[i-1].v l[i].v=true):=by
 unfold s9 at h;have:=D1s.1 h i (List.mem_range.2 m);unfold A7B N7 at this;have e:l.getD i default=l[i]:=by simp[m]
 have e2: ∀j:i-1<l.length,l.getD (i-1) default=l[i-1]:=fun j=>by simp[j]
 rw[e]at this;simp only[D1U,D2e,D1d]at this;refine⟨this.1.1.1,this.1.2,by omega,fun j o=>?_⟩;rcases this.1.1.2 with g|g
 ·omega
 ·rw[e2 j]at g;exact g
theorem N1{l:List LTm}(h:s9 l=true): ∀t∈l,I2 (B t.v)=true∧t.c≠0∧t.c.natAbs≤1048576:=fun t ht=>by
 obtain⟨i,j,rfl⟩:=List.getElem_of_mem ht;have:=A12 h j;exact⟨this.1,this.2.1,this.2.2.1⟩
theorem B9p(k:Int):Sg (A0N false k):=fun c r e=>by
 unfold A0N at e;split at e
 ·cases e;decide
 ·cases e;decide
theorem B6X(t:LTm)(l:List UInt8):Sg (U5 false t++l):=fun c r e=>by
 unfold U5 at e;split at e
 ·cases e;decide
 ·cases e;decide
theorem A1Q: ∀(l:List LTm) (f:Bool) (R:List UInt8),(∀t∈l,I2 (B t.v)=true∧t.c≠0∧t.c.natAbs≤1048576)→Sg R→
  ∃ps,P0 (L6 f l++R)=ps++P0 R∧ps.mapM M8=some (l.map fun t=>(B t.v,t.c))∧ps.map A24=l.map fun t=>(B t.v,t.c)
 | [],f,R,_,_=>⟨[],by simp[L6],rfl,rfl⟩
 |t::l,f,R,h,j=>by
  have ht:=h t (D1S ..);obtain⟨ps,h1,m,o⟩:=A1Q l false R (fun x hx=>h x (D1Z _ hx)) j;have hp:=B19 f t ht.1 ht.2.1 ht.2.2;have i:Sg (L6 false l++R):=by
   cases l with
   |nil=>exact j
   |cons y l=>rw[L6,D15];exact B6X y _
  refine⟨U5 f t::ps,?_,?_,?_⟩
  ·rw[L6,D15];have e:U5 f t=(if t.c<0 then [45]else if f=true then []else [43])++A1g t:=rfl;have:=A42 (if t.c<0 then [45]else if f=true then []else [43]) (A1g t) (L6 false l++R) (sign_or f t.c) (B3N t ht.1) (fun c hc=>⟨(A11 t ht.1 c hc).1,(A11 t ht.1 c hc).2.1⟩) i;rw[←e]at this;rw[this,h1];rfl
  ·rw[List.mapM_cons,hp.1,m];rfl
  ·rw[D2Y,hp.2,o];rfl
def A1R(a:LinV)(ps:List (List UInt8×Int)):LinV:=ps.foldl A7C a
theorem A3e(l:List LTm): ∀(a:LinV),(∀t∈l,I2 (B t.v)=true)→A1R a (l.map fun t=>(B t.v,t.c))= {a with t:=a.t++l}:=by
 induction l with
 |nil=>intro a _;simp[A1R]
 |cons x l i=>
  intro a h;have hx:=A3d (h x (D1S ..));unfold A1R at i⊢;rw[D2Y,List.foldl_cons];have e:A7C a (B x.v,x.c)= {a with t:=a.t++[x]}:=by unfold A7C;rw[if_neg hx,S_B]
  rw[e,i _ (fun t ht=>h t (D1Z _ ht))];simp
theorem B0T(a:LinV)(i:validL a=true): ∃ps,(P0 (M2 a)).mapM M8=some ps∧(P0 (M2 a)).map A24=ps∧∀e,A1R ⟨[],0,e⟩ ps=⟨a.t,a.k,e⟩:=by
 unfold validL N7 at i;simp only[D1U,D1d]at i;have hk:a.k.natAbs≤1099511627776:=by omega
 have hm:=N1 i.1.1;have hd: ∀x∈dec a.k.natAbs,x.toNat≠43∧x.toNat≠45:=fun x hx=>by have:=P8 _ x hx;omega
 have h: ∀f,P0 (A0N f a.k)= [A0N f a.k]:=fun f=>by
  have:=A42 (if a.k<0 then [45]else if f=true then []else [43]) (dec a.k.natAbs) [] (sign_or f a.k) (A8t _) hd (fun c r e=>by cases e);rw[D16,A23]at this;exact this
 by_cases hn:a.t= []
 ·have e:M2 a=A0N true a.k:=by unfold M2 R8;rw[hn];simp[L6]
  refine⟨[([],a.k)],?_,?_,fun e=>?_⟩
  ·rw[e,h,List.mapM_cons,(A2U true a.k hk).1];rfl
  ·rw[e,h];simp only[D2Y,List.map_nil,(A2U true a.k hk).2]
  ·rw[hn];simp[A1R,A7C]
 ·have he:a.t.isEmpty=false:=by simp[hn]
  by_cases j:a.k=0
  ·have e:M2 a=L6 true a.t++[]:=by unfold M2 R8;rw[if_neg (by simp[hn,j])]
   obtain⟨ps,h1,m,o⟩:=A1Q a.t true [] hm (fun c r e=>by cases e);rw[A23,D16 ps]at h1;refine⟨a.t.map fun t=>(B t.v,t.c),?_,?_,fun e=>?_⟩
   ·rw[e,h1];exact m
   ·rw[e,h1];exact o
   ·rw[A3e _ _ (fun t ht=>(hm t ht).1),j];simp
  ·have e:M2 a=L6 true a.t++A0N false a.k:=by unfold M2 R8;rw[if_pos (.inr j),he]
   obtain⟨ps,h1,m,o⟩:=A1Q a.t true (A0N false a.k) hm (B9p a.k);rw[h]at h1;refine⟨(a.t.map fun t=>(B t.v,t.c))++[([],a.k)],?_,?_,fun e=>?_⟩
   ·rw[e,h1,List.mapM_append,m,List.mapM_cons,(A2U false a.k hk).1];rfl
   ·rw[e,h1,D2H,o,D2Y,List.map_nil,(A2U false a.k hk).2]
   ·have:=A3e a.t ⟨[],0,e⟩ (fun t ht=>(hm t ht).1);unfold A1R at this⊢;rw[D19,this];simp[A7C]
theorem B6Y(a:LinV)(i:validL a=true): ∀c∈M2 a,c.toNat≠61∧c.toNat≠62:=by
 unfold validL at i;simp only[D1U]at i;have hm:=N1 i.1.1;have key: ∀(l:List LTm) (f:Bool),(∀t∈l,I2 (B t.v)=true)→∀c∈L6 f l,c.toNat≠61∧c.toNat≠62:=by
  intro l
  induction l with
  |nil=>intro f _ c hc;cases hc
  |cons t l j=>
   intro f h c hc;rw[L6]at hc;rcases D1h.1 hc with g|g
   ·have e:U5 f t=(if t.c<0 then [45]else if f=true then []else [43])++A1g t:=rfl;rw[e]at g;rcases D1h.1 g with g|g
    ·rcases sign_or f t.c with q|q|q<;>rw[q]at g
     ·cases g
     ·rw[D1i]at g;subst g;decide
     ·rw[D1i]at g;subst g;decide
    ·have:=A11 t (h t (D1S ..)) c g;exact⟨this.2.2.2,this.2.2.1⟩
   ·exact j false (fun x hx=>h x (D1Z _ hx)) c g
 intro c hc;unfold M2 at hc;rcases D1h.1 hc with g|g
 ·exact key a.t true (fun t ht=>(hm t ht).1) c g
 ·unfold R8 at g;split at g
  ·unfold A0N at g;rcases D1h.1 g with g|g
   ·rcases sign_or a.t.isEmpty a.k with q|q|q<;>rw[q]at g
    ·cases g
    ·rw[D1i]at g;subst g;decide
    ·rw[D1i]at g;subst g;decide
   ·have:=P8 _ c g;omega
  ·cases g
def A43(s:List UInt8):Option LinV:=
 if Lib.hasSuffix s [61,48]=true then
  let b:=Lib.trimSuffix s [61,48]
  ((P0 (Lib.trimSuffix b [62])).mapM M8).map (A1R ⟨[],0,!Lib.hasSuffix b [62]⟩)
 else none
def A7l(c:UInt8):Bool:=c==61||c==62
def A44(s:List UInt8):LinV:=
 A1R ⟨[],0,decide ((s.dropWhile (!A7l ·)).head?=some 61)⟩ ((P0 (s.takeWhile (!A7l ·))).map A24)
theorem A8w(l m:List UInt8):Lib.hasSuffix (l++m) m=true∧Lib.trimSuffix (l++m) m=l:=by
 have h:Lib.hasSuffix (l++m) m=true:=by unfold Lib.hasSuffix;rw[List.isSuffixOf_iff_suffix];exact List.suffix_append ..
 refine⟨h,?_⟩;unfold Lib.trimSuffix;rw[if_pos h];simp
theorem C3j(l:List UInt8)(c:UInt8)(h: ∀x∈l,x≠c):Lib.hasSuffix l [c]=false∧Lib.trimSuffix l [c]=l:=by
 have h:Lib.hasSuffix l [c]=false:=by
  rw[←D2d];unfold Lib.hasSuffix;rw[List.isSuffixOf_iff_suffix];rintro⟨r,e⟩;exact h c (by rw[←e];simp) rfl
 refine⟨h,?_⟩;unfold Lib.trimSuffix;rw[if_neg (by simp[h])]
theorem A7m(a:LinV)(o:validL a=true):A43 (F5 a)=some a∧A44 (F5 a)=a:=by
 have hb:=B6Y a o;obtain⟨ps,h1,q,u⟩:=B0T a o;have m: ∀x∈M2 a,x≠62:=fun x hx e=>(hb x hx).2 (by rw[e];rfl);have nst: ∀x∈M2 a,(!A7l x)=true:=fun x hx=>by
  have:=hb x hx;have e1:x≠61:=fun e=>this.1 (by rw[e];rfl);have e2:x≠62:=fun e=>this.2 (by rw[e];rfl);simp[A7l,e1,e2]
 unfold A43 A44 F5;cases he:a.e with
 |true=>
  simp only[if_true];have h:=A8w (M2 a) [61,48];have i:=C3j (M2 a) 62 m;have j:=S3 (p:=(!A7l ·)) (l:=M2 a) (R:=[61,48]) nst (fun c r e=>by cases e;decide);rw[if_pos h.1,h.2,i.2,i.1,j.1,j.2,h1,q];have:=u true;refine⟨?_,?_⟩
  ·simp only[Option.map_some,D2g,this];cases a;simp_all
  ·simp only[List.head?_cons,decide_true,this];cases a;simp_all
 |false=>
  simp only[D1X,if_false];have e2:M2 a++[62,61,48]=M2 a++[62]++[61,48]:=by simp
  have h:=A8w (M2 a++[62]) [61,48];have i:=A8w (M2 a) [62];have j:=S3 (p:=(!A7l ·)) (l:=M2 a) (R:=[62,61,48]) nst (fun c r e=>by cases e;decide);rw[j.1,j.2,q,e2,if_pos h.1,h.2,i.2,i.1,h1];have:=u false;refine⟨?_,?_⟩
  ·simp only[Option.map_some,D2f,this];cases a;simp_all
  ·have e3:decide ((62::[61,48]:List UInt8).head?=some 61)=false:=by decide
   rw[e3,this];cases a;simp_all
def A0l(s:List UInt8):Option LinV:=(A43 s).bind fun a=>if validL a=true∧F5 a=s then some a else none
theorem B6Z(s:List UInt8):A0l s=if validL (A44 s)=true∧F5 (A44 s)=s then some (A44 s)else none:=by
 unfold A0l;by_cases h: ∃a,validL a=true∧F5 a=s
 ·obtain⟨a,i,rfl⟩:=h;obtain⟨h1,j⟩:=A7m a i;rw[h1,j];rfl
 ·have n: ∀a,¬(validL a=true∧F5 a=s):=fun a g=>h ⟨a,g⟩;rw[if_neg (n _)];cases A43 s with
  |none=>rfl
  |some a=>show (if _ then _ else _)=_;rw[if_neg (n a)]
theorem B0U(a:LinV)(h:validL a=true):A0l (F5 a)=some a:=by
 unfold A0l;rw[(A7m a h).1];show (if _ then _ else _)=_;rw[if_pos ⟨h,rfl⟩]
end Go.Lin
namespace Go.Lin
open Go Go.Av
def F2:List Nat→Nat
 | []=>0
 |d::l=>d+4294967296*F2 l
def C2(n:Nat):List Nat:=if h:n=0 then []else n % 4294967296::C2 (n / 4294967296)
termination_by n
decreasing_by exact Nat.div_lt_self (Nat.pos_of_ne_zero h) (by decide)
def F4(d:Nat):List D:=[.int .u32 d]
@[go_sem] theorem C9d(n:Nat):F4 n= [.int .u32 n]:=rfl
abbrev X6(n:Nat):D:=.sl 1 (Rw F4 (C2 n))
def Dig(l:List Nat):Prop:=∀d∈l,d<4294967296
theorem J6:C2 0= []:=by unfold C2;simp
theorem A0H{n:Nat}(h:n≠0):C2 n=n % 4294967296::C2 (n / 4294967296):=by rw[C2];simp[h]
theorem P6(n:Nat):Dig (C2 n):=by
 induction n using Nat.strongRecOn with
 |ind n i=>
  intro d hd;by_cases h:n=0
  ·subst h;rw[J6]at hd;cases hd
  ·rw[A0H h]at hd;rcases D1j.1 hd with rfl|hd
   ·exact Nat.mod_lt _ (by decide)
   ·exact i (n / 4294967296) (Nat.div_lt_self (Nat.pos_of_ne_zero h) (by decide)) d hd
theorem K9(n:Nat):F2 (C2 n)=n:=by
 induction n using Nat.strongRecOn with
 |ind n i=>
  by_cases h:n=0
  ·subst h;rw[J6];rfl
  ·rw[A0H h,F2,i _ (Nat.div_lt_self (Nat.pos_of_ne_zero h) (by decide))];exact Nat.mod_add_div n 4294967296
theorem i7(l m:List Nat):F2 (l++m)=F2 l+4294967296 ^ l.length*F2 m:=by
 induction l with
 |nil=>simp[F2]
 |cons d l h=>
  rw[D2S,F2,h,F2,D1M,Nat.pow_succ,Nat.mul_add,Nat.mul_comm (4294967296 ^ l.length) 4294967296,Nat.mul_assoc,Nat.add_assoc]
theorem w9(l:List Nat)(d:Nat):F2 (l++[d])=F2 l+4294967296 ^ l.length*d:=by rw[i7];simp[F2]
theorem G9(l:List Nat)(i:Nat)(h:i<l.length):F2 (l.take (i+1))=F2 (l.take i)+4294967296 ^ i*l[i]:=by
 rw[D1a h,w9,D1z,Nat.min_eq_left (by omega)]
theorem A2V(l:List Nat)(i:Nat)(h:i<l.length):F2 (l.drop i)=l[i]+4294967296*F2 (l.drop (i+1)):=by
 rw[D1m h,F2]
theorem B2A(n:Nat):F2 (List.replicate n 0)=0:=by
 induction n with
 |zero=>rfl
 |succ n h=>rw[List.replicate_succ,F2,h]
theorem A8x{l:List Nat}(h:Dig l):F2 l<4294967296 ^ l.length:=by
 induction l with
 |nil=>simp[F2]
 |cons d l i=>
  have h1:=h d (D1S ..);have j:=i (fun x hx=>h x (D1Z _ hx));rw[F2,D1M,Nat.pow_succ]
  calc d+4294967296*F2 l<4294967296+4294967296*F2 l:=by omega
   _=4294967296*(F2 l+1):=by rw[Nat.mul_add];omega
   _≤4294967296*4294967296 ^ l.length:=Nat.mul_le_mul_left _ j
   _=4294967296 ^ l.length*4294967296:=Nat.mul_comm _ _
theorem B9q{l:List Nat}(h:Dig l)(hl: ∀(hn:l≠[]),l.getLast hn≠0):C2 (F2 l)=l:=by
 induction l with
 |nil=>rw[F2,J6]
 |cons d l m=>
  have h1:d<4294967296:=h d (D1S ..);have i:=m (fun x hx=>h x (D1Z _ hx)) (fun hn=>by
   have:=hl (List.cons_ne_nil _ _);rwa [List.getLast_cons hn]at this)
  have j:F2 (d::l)≠0:=by
   rw[F2];cases l with
   |nil=>
    have:=hl (List.cons_ne_nil _ _);simp at this;simp[F2,this]
   |cons e l=>
    intro p;have o:F2 (e::l)=0:=by
     have:4294967296*F2 (e::l)=0:=by omega
     rcases Nat.mul_eq_zero.1 this with g|g
     ·exact absurd g (by decide)
     ·exact g
    rw[o,J6]at i;cases i
  rw[A0H j];have e1:F2 (d::l) % 4294967296=d:=by rw[F2,Nat.add_mul_mod_self_left];exact D2I h1
  have e2:F2 (d::l) / 4294967296=F2 l:=by rw[F2,Nat.add_mul_div_left _ _ (by decide),Nat.div_eq_of_lt h1,Nat.zero_add]
  rw[e1,e2,i]
theorem B4Y(n:Nat): ∀(hn:C2 n≠[]),(C2 n).getLast hn≠0:=by
 induction n using Nat.strongRecOn with
 |ind n m=>
  intro hn;by_cases h:n=0
  ·subst h;rw[J6]at hn;exact absurd rfl hn
  ·have e:=A0H h;by_cases j:n / 4294967296=0
   ·have e2:C2 n= [n % 4294967296]:=by rw[e,j,J6]
    have:n % 4294967296=n:=D2I (by rcases Nat.div_eq_zero_iff.1 j with g|g;exact absurd g (by decide);exact g);simp only[e2,List.getLast_singleton,this];exact h
   ·have i:C2 (n / 4294967296)≠[]:=by rw[A0H j];exact List.cons_ne_nil _ _
    have g:=m (n / 4294967296) (Nat.div_lt_self (Nat.pos_of_ne_zero h) (by decide)) i;have e3:(C2 n).getLast hn=(n % 4294967296::C2 (n / 4294967296)).getLast (List.cons_ne_nil _ _):=by congr 1
    rw[e3,List.getLast_cons i];exact g
theorem B9r{l m:List Nat}{x:Nat}(e:l=m++[x])(h:l≠[]):l.getLast h=x:=by subst e;simp
def A0I:List Nat→Nat→Nat
 |_,0=>0
 |l,n+1=>if l.getD n 0=0 then A0I l n else n+1
theorem B0V(l:List Nat)(n:Nat):A0I l n≤n:=by
 induction n with
 |zero=>exact D1b _
 |succ n h=>unfold A0I;split;omega;exact D1b _
theorem A6T{l:List Nat}(h:Dig l): ∀n,n≤l.length→l.take (A0I l n)=C2 (F2 (l.take n))
 |0,_=>by simp[A0I,F2,J6]
 |n+1,hn=>by
  have hl:n<l.length:=by omega
  have m:l.getD n 0=l[n]:=by simp[hl]
  unfold A0I;rw[m];split
  ·rename_i i;rw[A6T h n (by omega),G9 l n hl,i,Nat.mul_zero,Nat.add_zero]
  ·rename_i i;refine(B9q (fun d hd=>h d (List.mem_of_mem_take hd)) fun j=>?_).symm;rw[B9r (D1a hl) j];exact i
theorem B0W{l:List Nat}(h:Dig l):l.take (A0I l l.length)=C2 (F2 l):=by
 have:=A6T h l.length (D1b _);rwa [List.take_length]at this
theorem B0X(n k:Nat)(h:n<4294967296 ^ k):(C2 n).length≤k:=by
  induction k generalizing n with
  | zero => have:n=0:=by simpa using h
            subst this;rw[J6];exact D1b _
  |succ k j=>
    by_cases i:n=0
    · subst i;rw[J6];exact D1c _
    · rw[A0H i,D1M]
      have:=j (n / 4294967296) (Nat.div_lt_of_lt_mul (by rw[Nat.pow_succ,Nat.mul_comm]at h;exact h));omega
theorem I8(n:Nat):(C2 n).length=0↔n=0:=by
 constructor
 ·intro h;have:=K9 n;rw[D1f h]at this;exact this.symm
 ·rintro rfl;rw[J6];rfl
theorem A3f{n:Nat}(h:n<4294967296)(i:n≠0):C2 n= [n]:=by
 rw[A0H i,D2I h,Nat.div_eq_of_lt h,J6]
theorem A0V{a b:Nat}(h:(C2 a).length<(C2 b).length):a<b:=by
 by_cases hb:b=0
 ·subst hb;rw[J6]at h;simp at h
 ·have h1:a<4294967296 ^ (C2 a).length:=by have:=A8x (P6 a);rwa [K9]at this
  have i:C2 b≠[]:=by intro e;rw[e]at h;simp at h
  have j:4294967296 ^ ((C2 b).length-1)≤b:=by
   have e:=List.dropLast_concat_getLast i;have g:=K9 b;rw[←e,w9]at g;have l:=B4Y b i;have:4294967296 ^ (C2 b).dropLast.length*1≤4294967296 ^ (C2 b).dropLast.length*(C2 b).getLast i:=Nat.mul_le_mul_left _ (by omega);rw[List.length_dropLast]at this;rw[List.length_dropLast]at g;omega
  exact D2D h1 (D2N (Nat.pow_le_pow_right (by decide) (by omega)) j)
theorem B4Z{a b:Nat}(h:a≤b):(C2 a).length≤(C2 b).length:=by
 by_cases g:(C2 b).length<(C2 a).length
 ·have:=A0V g;omega
 ·omega
theorem B0Y{l m:List Nat}(hl:Dig l)(hm:Dig m)(he:l.length=m.length){i:Nat}(j:i<l.length)(hd:l.drop (i+1)=m.drop (i+1)):l[i]<m[i]'(by omega)→F2 l<F2 m:=fun h=>by
 have e1:F2 l=F2 (l.take i)+4294967296 ^ i*(l[i]+4294967296*F2 (l.drop (i+1))):=by
  conv=>lhs;rw[←List.take_append_drop i l,i7,A2V l i j,D1z,Nat.min_eq_left (by omega)]
 have e2:F2 m=F2 (m.take i)+4294967296 ^ i*(m[i]+4294967296*F2 (m.drop (i+1))):=by
  conv=>lhs;rw[←List.take_append_drop i m,i7,A2V m i (by omega),D1z,Nat.min_eq_left (by omega)]
 have o:=A8x (l:=l.take i) (fun d hd=>hl d (List.mem_of_mem_take hd));rw[D1z,Nat.min_eq_left (by omega)]at o;rw[e1,e2,hd]
 calc F2 (l.take i)+4294967296 ^ i*(l[i]+4294967296*F2 (m.drop (i+1)))<4294967296 ^ i+4294967296 ^ i*(l[i]+4294967296*F2 (m.drop (i+1))):=by omega
  _=4294967296 ^ i*(l[i]+1+4294967296*F2 (m.drop (i+1))):=by rw[Nat.mul_add,Nat.mul_add,Nat.mul_add];omega
  _≤4294967296 ^ i*(m[i]+4294967296*F2 (m.drop (i+1))):=Nat.mul_le_mul_left _ (by omega)
  _≤_:=Nat.le_add_left _ _
theorem A1S(L:List Nat)(s:Nat):F2 (L++[s % 4294967296])+4294967296 ^ (L.length+1)*(s / 4294967296)=F2 L+4294967296 ^ L.length*s:=by
 rw[w9,Nat.pow_succ,Nat.add_assoc,Nat.mul_assoc,←Nat.mul_add,Nat.mod_add_div]
theorem A45(L:List Nat)(s:Int):(F2 (L++[(s % (4294967296:Int)).toNat]):Int)+(4294967296:Int) ^ (L.length+1)*(s / (4294967296:Int))=F2 L+(4294967296:Int) ^ L.length*s:=by
 have h:0≤s % (4294967296:Int):=Int.emod_nonneg _ (by decide);have h1:((s % (4294967296:Int)).toNat:Int)=s % (4294967296:Int):=Int.toNat_of_nonneg h;have i:(((4294967296:Nat) ^ L.length:Nat):Int)=(4294967296:Int) ^ L.length:=Int.natCast_pow _ _;rw[w9,Int.natCast_add,Int.natCast_mul,h1,i,Int.pow_succ,Int.add_assoc,Int.mul_assoc,←Int.mul_add,Int.emod_add_mul_ediv]
theorem B0Z(l:List Nat)(p d:Nat)(h:p<l.length):F2 (l.set p d)+4294967296 ^ p*l[p]=F2 l+4294967296 ^ p*d:=by
 have e1:l.set p d=l.take p++d::l.drop (p+1):=by rw[List.set_eq_take_append_cons_drop,if_pos h]
 have e2:F2 l=F2 (l.take p)+4294967296 ^ p*(l[p]+4294967296*F2 (l.drop (p+1))):=by
  conv=>lhs;rw[←List.take_append_drop p l,i7,A2V l p h,D1z,Nat.min_eq_left (by omega)]
 rw[e1,i7,F2,D1z,Nat.min_eq_left (by omega),e2,Nat.mul_add,Nat.mul_add];omega
theorem B3Q{l:List Nat}(h:Dig l){p d:Nat}(hd:d<4294967296):Dig (l.set p d):=fun x hx=>by
 rcases List.mem_or_eq_of_mem_set hx with g|rfl
 ·exact h x g
 ·exact hd
theorem i8{l:List Nat}(h:Dig l){d:Nat}(hd:d<4294967296):Dig (l++[d]):=fun x hx=>by
 rcases D1h.1 hx with g|g
 ·exact h x g
 ·rw[D1i]at g;rw[g];exact hd
theorem J8{l:List Nat}(h:Dig l){i:Nat}(j:i<l.length):l[i]<4294967296:=h _ (D1V j)
theorem B4a(n:Nat):Dig (List.replicate n 0):=fun x hx=>by rw[(List.mem_replicate.1 hx).2];decide
def S4(L:List Nat)(n:Nat):List Nat:=L++List.replicate (n-L.length) 0
theorem A6U(L:List Nat)(n:Nat)(h:L.length≤n):(S4 L n).length=n:=by simp[S4];omega
theorem j0(L:List Nat)(n d:Nat)(h:L.length<n):(S4 L n).set L.length d=S4 (L++[d]) n:=by
 unfold S4;rw[List.set_append_right _ _ (D1b _),Nat.sub_self,D1N,D1P];have e:n-L.length=(n-(L.length+1))+1:=by omega
 rw[e,List.replicate_succ,List.set_cons_zero,D15];rfl
theorem A6V(n:Nat):S4 [] n=List.replicate n 0:=by simp[S4]
theorem A4W(L:List Nat)(n:Nat)(h:L.length=n):S4 L n=L:=by simp[S4,h]
def A3g(L:List Nat)(n:Nat):List Nat:=List.replicate (n-L.length) 0++L
theorem B6a(L:List Nat)(n:Nat)(h:L.length≤n):(A3g L n).length=n:=by simp[A3g];omega
theorem B6b(L:List Nat)(n d k:Nat)(h:L.length+k+1=n):(A3g L n).set k d=A3g (d::L) n:=by
 unfold A3g;have e:n-L.length=k+1:=by omega
 have e2:n-(d::L).length=k:=by simp;omega
 rw[e,e2,List.replicate_succ',D15,List.set_append_right _ _ (by simp)];simp
theorem B6c(n:Nat):A3g [] n=List.replicate n 0:=by simp[A3g]
theorem B4b(L:List Nat)(n:Nat)(h:L.length=n):A3g L n=L:=by simp[A3g,h]
theorem B6d{b r V A x:Nat}(hb:0<b)(h:V*b+r=A):((r*4294967296+x) / b+4294967296*V)*b+(r*4294967296+x) % b=x+4294967296*A:=by
 have e:=Nat.div_add_mod (r*4294967296+x) b;have e1:(r*4294967296+x) / b*b=b*((r*4294967296+x) / b):=Nat.mul_comm _ _;have e2:4294967296*A=4294967296*V*b+4294967296*r:=by rw[←h,Nat.mul_add,Nat.mul_assoc]
 have e3:r*4294967296=4294967296*r:=Nat.mul_comm _ _;rw[Nat.add_mul,e2];omega
theorem B9s{b r V A:Nat}(hb:r<b)(h:V*b+r=A):A / b=V∧A % b=r:=by
 subst h;constructor
 ·rw[Nat.mul_comm,Nat.mul_add_div (by omega),Nat.div_eq_of_lt hb,Nat.add_zero]
 ·rw[Nat.mul_comm,Nat.mul_add_mod,D2I hb]
theorem B6e(l:List Nat)(p i j s x y c T A:Nat)(h:p<l.length)(hp:p=i+j)(hv:F2 l+4294967296 ^ p*c=T+4294967296 ^ i*x*A)(hs:s=c+(x*y+l[p])):
  F2 (l.set p (s % 4294967296))+4294967296 ^ (p+1)*(s / 4294967296)=T+4294967296 ^ i*x*(A+4294967296 ^ j*y):=by
 have e1:=B0Z l p (s % 4294967296) h;have e2:4294967296 ^ (p+1)*(s / 4294967296)=4294967296 ^ p*(4294967296*(s / 4294967296)):=by rw[Nat.pow_succ,Nat.mul_assoc]
 have e3:4294967296 ^ p*(s % 4294967296)+4294967296 ^ p*(4294967296*(s / 4294967296))=4294967296 ^ p*c+4294967296 ^ p*(x*y)+4294967296 ^ p*l[p]:=by
  rw[←Nat.mul_add,Nat.mod_add_div,hs,Nat.mul_add,Nat.mul_add,Nat.add_assoc]
 have m:4294967296 ^ i*x*(4294967296 ^ j*y)=4294967296 ^ p*(x*y):=by
  rw[hp,Nat.pow_add];simp only[Nat.mul_assoc,Nat.mul_left_comm,Nat.mul_comm]
 rw[Nat.mul_add,m,e2];omega
theorem B9t(l:List Nat)(p c T X:Nat)(h:p<l.length)(i:l[p]=0)(hv:F2 l+4294967296 ^ p*c=T+X):F2 (l.set p c)=T+X:=by
 have e1:=B0Z l p c h;rw[i,Nat.mul_zero]at e1;omega
theorem C3k{x y o c:Nat}(hx:x<4294967296)(h:y<4294967296)(ho:o<4294967296)(hc:c<4294967296):c+(x*y+o)<18446744073709551616∧x*y<18446744073709551616:=by
 have:=Nat.mul_le_mul (show x≤4294967295 by omega) (show y≤4294967295 by omega);constructor<;>omega
end Go.Lin
namespace Go.Lin
open Go Go.Av Go.Lexs
def nilL:LinV:=⟨[],0,false⟩
def B0a(l:List LTm)(s:ByteArray):Int:=match l with
 | []=>0
 |t::l=>if t.v=s then t.c else B0a l s
theorem B2B{l:List LTm}(h:s9 l=true):l.Pairwise fun x y=>q9 x.v y.v=true:=by
 have key: ∀(j i:Nat) (m:i<l.length) (o:i+j+1<l.length),q9 l[i].v l[i+j+1].v=true:=by
  intro j
  induction j with
  |zero=>intro i m o;exact(A12 h o).2.2.2 (by omega) (by omega)
  |succ j p=>intro i m o;exact Y8 (p i m (by omega)) ((A12 h o).2.2.2 (by omega) (by omega))
 rw[List.pairwise_iff_getElem];intro i j m o q;have:=key (j-i-1) i m (by omega);have e:i+(j-i-1)+1=j:=by omega
 simp only[e]at this;exact this
def C3l(a:LinV)(n:Int):LinV:=⟨if n=0 then []else a.t.map fun t=>⟨t.v,t.c*n⟩,a.k*n,a.e⟩
def B2C(a:LinV)(n:Int):Bool:=decide (n=0)||(decide (0<n)&& !a.e)
def okV(l:List VlV)(i:Nat):Bool:=I2 (B (l.getD i default).v)&&(decide (i=0)||q9 (l.getD (i-1) default).v (l.getD i default).v)&&N7 (l.getD i default).n 2147483647
def N2(l:List VlV):Bool:=(List.range l.length).all (okV l)&&decide (l.length≤24)
def P1(l:List VlV)(s:ByteArray):Option Int:=match l with
 | []=>none
 |x::l=>if x.v=s then some x.n else P1 l s
def U1(k:Int)(l:List LTm)(vs:List VlV):Option Int:=match l with
 | []=>some k
 |t::l=>match P1 vs t.v with
  |none=>none
  |some n=>U1 (k+t.c*n) l vs
theorem B4c{l:List VlV}{s:ByteArray}(h: ∀x∈l,x.v≠s):P1 l s=none:=by
 induction l with
 |nil=>rfl
 |cons x l i=>rw[P1,if_neg (h x (D1S ..)),i (fun y j=>h y (D1Z _ j))]
theorem A8y{l:List VlV}(h:N2 l=true){i:Nat}(m:i<l.length):I2 (B l[i].v)=true∧l[i].n.natAbs≤2147483647∧(∀j:i-1<l.length,0<i→q9 l[i-1].v l[i].v=true):=by
 unfold N2 at h;rw[D1U]at h;have:=D1s.1 h.1 i (List.mem_range.2 m);unfold okV N7 at this;have e:l.getD i default=l[i]:=by simp[m]
 have e2: ∀j:i-1<l.length,l.getD (i-1) default=l[i-1]:=fun j=>by simp[j]
 rw[e]at this;simp only[D1U,D2e,D1d]at this;refine⟨this.1.1,by omega,fun j o=>?_⟩;rcases this.1.2 with g|g
 ·omega
 ·rw[e2 j]at g;exact g
theorem A7n{l:List VlV}(h:N2 l=true): ∀(i j:Nat) (m:i<l.length) (o:j<l.length),i<j→q9 l[i].v l[j].v=true:=by
 have key: ∀(j i:Nat) (m:i<l.length) (o:i+j+1<l.length),q9 l[i].v l[i+j+1].v=true:=by
  intro j
  induction j with
  |zero=>intro i m o;exact(A8y h o).2.2 (by omega) (by omega)
  |succ j p=>intro i m o;exact Y8 (p i m (by omega)) ((A8y h o).2.2 (by omega) (by omega))
 intro i j m o q;have:=key (j-i-1) i m (by omega);have e:i+(j-i-1)+1=j:=by omega
 simp only[e]at this;exact this
theorem A8z{l:List VlV}(h:N2 l=true){s:ByteArray}{i:Nat}(z:i≤l.length)(h1: ∀(k:Nat) (hk:k<l.length),k<i→q9 l[k].v s=true)(q: ∀hk:i<l.length,q9 l[i].v s=false):
  P1 l s=if hk:i<l.length then(if l[i].v=s then some l[i].n else none)else none:=by
 have key: ∀(m:List VlV) (i:Nat),(∀(k:Nat) (hk:k<m.length),k<i→m[k].v≠s)→(∀(k:Nat) (hk:k<m.length),i<k→m[k].v≠s)→P1 m s=if hk:i<m.length then(if m[i].v=s then some m[i].n else none)else none:=by
  intro m
  induction m with
  |nil=>intro i _ _;simp[P1]
  |cons x m r=>
   intro i a b;rw[P1];cases i with
   |zero=>
    have e:P1 m s=none:=B4c fun y u=>by
     obtain⟨k,hk,rfl⟩:=List.getElem_of_mem u;exact b (k+1) (by simpa using hk) (by omega)
    rw[e];simp
   |succ i=>
    rw[if_neg (show¬x.v=s from a 0 (by simp) (by omega)),r i (fun k hk j=>a (k+1) (by simpa using hk) (by omega)) (fun k hk j=>b (k+1) (by simpa using hk) (by omega))];simp
 refine key l i (fun k hk j e=>?_) (fun k hk j e=>?_)
 ·have:=h1 k hk j;rw[e,s8]at this;cases this
 ·have o:=A7n h i k (by omega) hk j;have p:=q (by omega);rw[e]at o;rw[o]at p;cases p
structure Row where
 c:List Int
 k:Int
 eq:Bool
 deriving DecidableEq
instance :Inhabited Row:=⟨⟨[],0,false⟩⟩
def W3(l:List Int)(i:Nat):Int:=l.getD i 0
def A13(x:Row)(a:Int)(y:Row)(b:Int):Row:=⟨List.zipWith (fun p q=>p*a+q*b) x.c y.c,x.k*a+y.k*b,x.eq⟩
def gcdR(l:List Int):Nat:=l.foldl (fun g c=>Nat.gcd c.natAbs g) 0
def X9:List Row→Option (List Row)
 | []=>some []
 |r::l=>
  let g:=gcdR r.c
  if g=0 then(if r.k<0∨(r.eq=true∧0<r.k)then none else X9 l)
  else if g=1 then(X9 l).map (r:: ·)
  else
   let k:=r.k.fdiv g
   if r.eq=true∧k*g-r.k≠0 then none
   else(X9 l).map (⟨r.c.map (Int.fdiv · g),k,r.eq⟩:: ·)
def A4X(a b:Row)(sign:Int):Bool:=a.c==b.c.map (· *sign)
def A3h(r:Row):List Row→List Row
 | []=>[r]
 |s::l=>if r.eq=false∧s.eq=false∧A4X r s 1=true then(if r.k<s.k then {s with k:=r.k}else s)::l else s::A3h r l
def pairs1(l:List Row):List Row:=l.foldl (fun out r=>A3h r out) []
def A5M(r:Row):List Row→Option Row
 | []=>some r
 |s::l=>if r.eq=true∨s.eq=true∨A4X r s (-1)=false then A5M r l
  else if r.k+s.k<0 then none else if r.k+s.k=0 then A5M {r with eq:=true} l else A5M r l
def A0J:List Row→List Row→Option (List Row)
 |done,[]=>some done
 |done,r::l=>match A5M r done with
  |none=>none
  |some r'=>A0J (done++[r']) l
def B0b(l:List Row):Option (List Row):=(X9 l).bind fun l=>A0J [] (pairs1 l)
def A6W(c:List Int):List Int→Nat→Option Nat→Option Nat
 | [],_,b=>b
 |x::l,i,b=>A6W c l (i+1) (if x≠0∧(match b with|none=>true|some j=>decide (x.natAbs<(W3 c j).natAbs))=true then some i else b)
def A4Y(r:Row):Option Nat:=A6W r.c r.c 0 none
def S5(e:Row)(k:Nat)(r:Row):Row:=if W3 r.c k=0 then r else A13 r 1 e (-(W3 r.c k*W3 e.c k))
def A00(a b:Int):Int:=a-b*Int.fdiv (a*2+b) (b*2)
def A2n(r:Row):Row:={r with c:=r.c++[0]}
def x9(l:List Row)(i:Nat):List Row:=
 let e:=l.getD i default
 let rest:=l.take i++l.drop (i+1)
 let k:=(A4Y e).getD 0
 if(W3 e.c k).natAbs=1 then rest.map (S5 e k)
 else
  let m:Int:=(W3 e.c k).natAbs+1
  let f:Row:=⟨e.c.map (A00 · m)++[-m],A00 e.k m,true⟩
  ((rest++[e]).map A2n).map (S5 f k)
def I9(l:List Row)(k:Nat):List Row:=l.filter fun r=>decide (0<W3 r.c k)
def G2(l:List Row)(k:Nat):List Row:=l.filter fun r=>decide (W3 r.c k<0)
def U6(l:List Row)(k:Nat):List Row:=l.filter fun r=>decide (W3 r.c k=0)
def A14(l:List Row)(k:Nat):Bool:=l.all fun r=>(W3 r.c k).natAbs==1
structure Ch where
 best:Option Nat
 sure:Bool
 cost:Int
def A3i(l:List Row)(b:Ch)(k:Nat):Ch:=
 let low:=I9 l k;let high:=G2 l k
 if low.length+high.length=0 then b
 else
  let ex:=A14 low k||A14 high k
  let n:Int:=(low.length:Int)*high.length-low.length-high.length
  if b.best=none∨(ex=true∧b.sure=false)∨(ex=b.sure∧n<b.cost)then⟨some k,ex,n⟩else b
def Z5(l:List Row):Ch:=(List.range (l.headD default).c.length).foldl (A3i l) ⟨none,false,0⟩
def A1T(a b:Row)(k:Nat)(dark:Bool):Row:=
 let p:=W3 a.c k;let q:= -(W3 b.c k)
 let r:=A13 a q b p
 if dark then {r with k:=r.k-(p-1)*(q-1)}else r
def A2W(l:List Row)(k:Nat)(dark:Bool):List Row:=U6 l k++(I9 l k).flatMap fun a=>(G2 l k).map fun b=>A1T a b k dark
def C14(n:Nat)(r:Row):Bool:=r.c.length==n&&r.c.all (fun x=>x.natAbs<2^30)&&decide (r.k.natAbs<2^62)
def A80(l:List Row):Bool:=decide (l.length<10000)&&match l with| []=>true|r::_=>decide (r.c.length<1000)&&l.all (C14 r.c.length)
def A46:Nat→List Row→Option Bool
 |0,_=>none
 |n+1,l=>if A80 l=true then match B0b l with
   |none=>some false
   |some []=>some true
   |some (r::l')=>if A80 (r::l')=true then match (r::l').findIdx? (·.eq)with
    |some i=>if(A4Y ((r::l').getD i default)).isSome=true then A46 n (x9 (r::l') i)else none
    |none=>match Z5 (r::l')with
     |⟨some k,true,_⟩=>A46 n (A2W (r::l') k false)
     |_=>none
    else none
  else none
def A7o(n i:Nat)(s:Int):List Int:=(List.range n).map fun j=>if j=i then s else 0
def C3m(n i:Nat):List Row:=[⟨A7o n i 1,2147483647,false⟩,⟨A7o n i (-1),2147483647,false⟩]
def C7O(names:List ByteArray)(a:LinV):Row:=⟨names.map (B0a a.t),a.k,a.e⟩
def B0c(l:List LinV)(names:List ByteArray):List Row:=l.map (C7O names)++(List.range names.length).flatMap (C3m names.length)
def C15(l:List LinV):Option Bool:=A46 100 (B0c l (A1w l))
def W4(s:ByteArray)(n:Int):LinV:=⟨[⟨s,1⟩],-n,false⟩
def t7(s:ByteArray)(n:Int):LinV:=⟨[⟨s,-1⟩],n,false⟩
def A3j(can:List LinV→Option Bool)(s:ByteArray):Nat→Int→Int→Option Int
 |0,_,_=>none
 |f+1,low,high=>if low<high then
   match can [W4 s (-((low+high).tdiv 2)),t7 s ((low+high).tdiv 2)]with
   |none=>none
   |some true=>A3j can s f low ((low+high).tdiv 2)
   |some false=>A3j can s f ((low+high).tdiv 2+1) high
  else some low
def B6f(can:List LinV→Option Bool)(s:ByteArray):Option Int:=match A3j can s 40 0 2147483647 with
 |none=>none
 |some low=>if 0<low then(match can [W4 s low,t7 s low]with
   |none=>none
   |some true=>some low
   |some false=>some (-low))else some low
def D0g(c:LinV):LinV:={C3l c (-1)with k:=c.k* -1-1,e:=false}
end Go.Lin
namespace Go.Lin
open Go Go.Av
theorem C3n(n:Nat):X6 n= .sl 1 (Rw F4 (C2 n)):=rfl
abbrev C5(n:Int):List D:=[.bool (decide (n<0)),.sl 1 (Rw F4 (C2 n.natAbs))]
theorem C3o(n:Int):C5 n= [.bool (decide (n<0)),.sl 1 (Rw F4 (C2 n.natAbs))]:=rfl
abbrev C6(r:Row):List D:=[.sl 2 (Rw C5 r.c),.bool (decide (r.k<0)),.sl 1 (Rw F4 (C2 r.k.natAbs)),.bool r.eq]
theorem B6g(r:Row):C6 r= [.sl 2 (Rw C5 r.c),.bool (decide (r.k<0)),.sl 1 (Rw F4 (C2 r.k.natAbs)),.bool r.eq]:=rfl
end Go.Lin
namespace Go.Proofs.YtibphjonmikciaaGreatDoor
open Go Go.Av Go.RowKit Go.Lin
theorem A0W{Q}(s:ByteArray)(c:Int)(H:Heap)(h:Q (.int .i64 (Lib.indexByte (B s) c.toNat.toUInt8)) H):D7 138 [.str s,.int .u8 c] H Q:=
 J0 (by kernel_rfl) (fun w vs hl hr hs=>by
  obtain⟨a,b,rfl,i,hb⟩:=A0E hl hr;rw[i.str_inv,hb.int_inv];refine(Tryz.strings_IndexByte s c w).mono fun e w' ⟨he,hw⟩=>?_;subst hw;exact⟨_,he,Below.refl _ _,.int _ _⟩) h
theorem B0d{Q}(s p:ByteArray)(H:Heap)(h:Q (.bool ((B p).isPrefixOf (B s))) H):D7 186 [.str s,.str p] H Q:=
 J0 (by kernel_rfl) (fun w vs hl hr hs=>by
  obtain⟨a,b,rfl,i,hb⟩:=A0E hl hr;rw[i.str_inv,hb.str_inv];refine(Tryz.strings_HasPrefix s p w).mono fun e w' ⟨he,hw⟩=>?_;subst hw;exact⟨_,he,Below.refl _ _,.bool _⟩) h
theorem A81{Q}(s p:ByteArray)(H:Heap)(h:Q (.str (S (Lib.trimPrefix (B s) (B p)))) H):D7 185 [.str s,.str p] H Q:=
 J0 (by kernel_rfl) (fun w vs hl hr hs=>by
  obtain⟨a,b,rfl,i,hb⟩:=A0E hl hr;rw[i.str_inv,hb.str_inv];refine(Tryz.strings_TrimPrefix s p w).mono fun e w' ⟨he,hw⟩=>?_;subst hw;exact⟨_,he,Below.refl _ _,.str _⟩) h
theorem A82{Q}(s p:ByteArray)(hsz:s.size≤1000000000000)(H:Heap)(h:Q (.str (S (Lib.trimSuffix (B s) (B p)))) H):D7 148 [.str s,.str p] H Q:=
 J0 (by kernel_rfl) (fun w vs hl hr hs=>by
  obtain⟨a,b,rfl,i,hb⟩:=A0E hl hr;rw[i.str_inv,hb.str_inv];refine(Tryz.strings_TrimSuffix s p w (by omega)).mono fun e w' ⟨he,hw⟩=>?_;subst hw;exact⟨_,he,Below.refl _ _,.str _⟩) h
theorem B0e{Q}(s p:ByteArray)(hsz:s.size≤1000000000000)(H:Heap)(h:Q (.bool (Lib.hasSuffix (B s) (B p))) H):D7 149 [.str s,.str p] H Q:=
 J0 (by kernel_rfl) (fun w vs hl hr hs=>by
  obtain⟨a,b,rfl,i,hb⟩:=A0E hl hr;rw[i.str_inv,hb.str_inv];refine(Tryz.strings_HasSuffix s p w (by omega)).mono fun e w' ⟨he,hw⟩=>?_;subst hw;exact⟨_,he,Below.refl _ _,.bool _⟩) h
theorem B0f{Q}(s p:ByteArray)(hsz:s.size≤1000000000000)(H:Heap)(h:Q (.tuple [.str (S (Lib.trimSuffix (B s) (B p))),.bool (Lib.hasSuffix (B s) (B p))]) H):D7 147 [.str s,.str p] H Q:=
 J0 (by kernel_rfl) (fun w vs hl hr hs=>by
  obtain⟨a,b,rfl,j,hb⟩:=A0E hl hr;rw[j.str_inv,hb.str_inv];refine(Tryz.strings_CutSuffix s p w (by omega)).mono fun e w' ⟨he,hw⟩=>?_;subst hw;exact⟨_,he,Below.refl _ _,.tuple _ _ rfl fun i d hd=>(match i,hd with|0,hd=>by simp at hd;subst hd;exact .str _|1,hd=>by simp at hd;subst hd;exact .bool _|i+2,hd=>by simp at hd)⟩) h
theorem B4d{Q}(s p:ByteArray)(H:Heap)(h:Q (.int .i64 (Lib.compareBytes (B s) (B p))) H):D7 106 [.str s,.str p] H Q:=
 J0 (by kernel_rfl) (fun w vs hl hr hs=>by
  obtain⟨a,b,rfl,i,hb⟩:=A0E hl hr;rw[i.str_inv,hb.str_inv];refine(Tryz.strings_Compare s p w).mono fun e w' ⟨he,hw⟩=>?_;subst hw;exact⟨_,he,Below.refl _ _,.int _ _⟩) h
structure Tabs(H:Heap):Prop where
 pow:H 1=some (.ro (B0O .u64 Lib.pow10Tab))
 syn: ∃t,H 2=some (.ro [.iface t .undef])
 rng: ∃t,H 3=some (.ro [.iface t .undef])
theorem Tabs.le{H H':Heap}(h:Tabs H)(hl:H.Le H'):Tabs H':=⟨hl _ _ h.pow,let ⟨t,e⟩:=h.syn;⟨t,hl _ _ e⟩,let ⟨t,e⟩:=h.rng;⟨t,hl _ _ e⟩⟩
theorem A1U{Q}(n:Int)(j: -9223372036854775808≤n)(h1:n≤9223372036854775807)(H:Heap)(m:Tabs H)(h:Q (.str (S (Lib.itoa n))) H):D7 142 [.int .i64 n] H Q:=
 J0 (by kernel_rfl) (fun w vs i hr hs=>by
  obtain⟨a,rfl,o⟩:=A1z i hr;rw[o.int_inv];refine(Tryz.strconv_Itoa n j h1 w (B6T (g:=1) (by kernel_rfl) hs m.pow)).mono fun e w' ⟨he,k,os,hw⟩=>?_;subst hw;exact⟨_,he,B18 _ _ _,.str _⟩) h
end Go.Proofs.YtibphjonmikciaaGreatDoor
namespace Go.Lin
open Go Go.Av Go.Lexs
theorem A01(s:ByteArray)(i:Nat)(h:i<s.size):(F1 s).getD i []= [.int .u8 (nth (B s) i)]:=by
 have j:i<s.data.toList.length:=by rw[D18];exact h
 unfold F1 nth B;rw[List.getD_eq_getElem?_getD,D1e,List.getD_eq_getElem?_getD,D1Y j];rfl
theorem A6X(s:ByteArray)(i:Nat)(h:i<s.size):(F1 s)[i]? =some [.int .u8 (nth (B s) i)]:=by
 have j:i<s.data.toList.length:=by rw[D18];exact h
 unfold F1 nth B;rw[D1e,List.getD_eq_getElem?_getD,D1Y j];rfl
theorem A25(s:ByteArray):(F1 s).length=s.size:=by unfold F1;rw[D10,D18];rfl
def A83:List UInt8:=[43,45,42,60,62,61]
theorem A47{x:Int}(h:33≤x)(h1:x≤126):decide (0≤Lib.indexByte A83 x.toNat.toUInt8)= !W0 x:=by
 obtain⟨n,rfl⟩: ∃n:Nat,x=n:=⟨x.toNat,by omega⟩
 have key: ∀n:Fin 127,33≤n.val→decide (0≤Lib.indexByte A83 (n.val:Int).toNat.toUInt8)= !W0 (n.val:Int):=by decide+kernel
 exact key ⟨n,by omega⟩ (by simpa using(by omega:33≤n))
end Go.Lin
namespace Go.Proofs.YtibphjonmikciaaGreatDoor
open Go Go.Av Go.Lexs Go.Lin
attribute [local irreducible] ACalls S9
theorem W5{Q}(n m:Int)(j: -9223372036854775807≤m)(h1:m≤9223372036854775807)(H:Heap)(h:Q (.bool (N7 n m)) H):D7 103 [.int .i64 n,.int .i64 m] H Q:=by
 refine A9 [] A6 Tryz.func103 rfl ?_;simp only[go_sem,seval,Tryz.results103];unfold N7 at h;have w:IntKind.i64.wrap (0-m)= -m:=by rw[A4 (by omega) (by omega)];omega
 repeat' (first|with_reducible apply D1H|simp only[go_sem,seval,w]|intro i)
 all_goals exact D2m (by simpa [*]using h)
theorem N9{Q}(s:ByteArray)(H:Heap)(h:Q (.bool (I2 (B s))) H):D7 102 [.str s] H Q:=by
 refine A9 [] A6 Tryz.func102 rfl ?_;simp only[go_sem,seval,Tryz.results102];have hl:=a7 s;have o:=A25 s;have G:S9 s 0=nth (B s) 0:=B6E s;by_cases hv:B s≠[]∧s.size≤200∧V9 (nth (B s) 0)=false
 ·obtain⟨v1,v2,v3⟩:=hv;have J: ¬((200:Int)<s.size):=by omega
  have v4: ¬(48≤nth (B s) 0∧nth (B s) 0≤57):=fun g=>by have:=(A1O _).2 g;rw[this]at v3;cases v3
  have vs:0<s.size:=by have:=List.length_pos_iff.2 v1;omega
  have q:(0:Int)<s.size:=by omega
  have O:I2 (B s)=(B s).all (ofB W0):=by unfold I2;rw[D1J v1,v3,D1J (by omega)];rfl
  rw[O]at h;by_cases T:48≤nth (B s) 0
  ·have V: ¬nth (B s) 0≤57:=fun g=>v4 ⟨T,g⟩;repeat' (first|with_reducible apply D1H|simp only[go_sem,seval,v1,J,q,G,T,V,decide_true,decide_false])
   refine A7b _ _ _ (by kernel_rfl) (by kernel_rfl) ?_;repeat' (first|simp only[go_sem,seval]|intro r)
   rename_i b;have hb:=r;clear r;refine C8 [23,24] (fun(i:Nat)=>[(25,.int .i64 i)]) (fun(i:Nat)=>H.set b (.vec 1 (F1 s))) (fun(i:Nat)=>i≤s.size∧((B s).take i).all (ofB W0)=true) (fun(i:Nat)=>s.size-i) (0) (⟨D1c _,by simp⟩) (by(try simp only[go_sem,seval])<;>(try simp(disch:=omega) [A4])) (by first|exact D2i _|exact A0 (by assumption)|exact B9 (by assumption)|simp only[Heap.Le,Heap.set,Heap.del]at* <;>grind) ?_;rintro W rfl i ⟨X,m⟩;by_cases u:i<s.size
   ·have j:decide ((i:Int)<s.size)=true:=D1J (by omega);have y:i<(B s).length:=by omega
    have z:=A6X s i u;have A:=A01 s i u;obtain⟨x,hx⟩: ∃x,x=nth (B s) i:=⟨_,rfl⟩
    have bad:W0 x=false→(B s).all (ofB W0)=false:=fun g=>A3X W0 (B s) i y (by rw[←hx];exact g);rw[←hx]at z A;have U:decide ((i:Int)<(F1 s).length)=true:=D1J (by rw[A25];omega);by_cases c1:x<33
    ·rw[bad (A3b (by omega))]at h;repeat' (first|with_reducible apply D1H|simp only[go_sem,seval,j,z,A,o,c1,decide_true]|omega)
     exact D2j (A0 hb) h
    ·by_cases I:126<x
     ·rw[bad (A3b (by omega))]at h;repeat' (first|with_reducible apply D1H|simp only[go_sem,seval,j,z,A,o,c1,I,decide_true,decide_false]|omega)
      exact D2j (A0 hb) h
     ·have c3:=A47 (x:=x) (by omega) (by omega);have M:B ({data:= #[43,45,42,60,62,61]}:ByteArray)=A83:=rfl;by_cases p:W0 x=true
      ·rw[p]at c3;repeat' (first|with_reducible apply D1H|simp only[go_sem,seval,j,z,A,o,c1,I,M,c3,decide_true,decide_false]|simp(disch:=omega) only[A4,A01]|with_reducible refine A0W _ _ _ ?_|omega)
       exact C4 (i+1) ⟨by omega,by rw[A2m _ _ _ y,m,←hx,p];rfl⟩ (by omega) (by(try simp only[go_sem,seval])<;>(try simp(disch:=omega) [A4])) (D2i _)
      ·have p:W0 x=false:=by simpa using p
       rw[p]at c3;rw[bad p]at h;repeat' (first|with_reducible apply D1H|simp only[go_sem,seval,j,z,A,o,c1,I,M,c3,decide_true,decide_false]|with_reducible refine A0W _ _ _ ?_|omega)
       exact D2j (A0 hb) h
   ·have j:decide ((i:Int)<s.size)=false:=D1K (by omega);rw[D1W (by omega)]at m;rw[m]at h;repeat' simp only[go_sem,seval,j]
    exact D2j (A0 hb) h
  ·repeat' (first|with_reducible apply D1H|simp only[go_sem,seval,v1,J,q,G,T,decide_true,decide_false])
   refine A7b _ _ _ (by kernel_rfl) (by kernel_rfl) ?_;repeat' (first|simp only[go_sem,seval]|intro r)
   rename_i b;have hb:=r;clear r;refine C8 [23,24] (fun(i:Nat)=>[(25,.int .i64 i)]) (fun(i:Nat)=>H.set b (.vec 1 (F1 s))) (fun(i:Nat)=>i≤s.size∧((B s).take i).all (ofB W0)=true) (fun(i:Nat)=>s.size-i) (0) (⟨D1c _,by simp⟩) (by(try simp only[go_sem,seval])<;>(try simp(disch:=omega) [A4])) (by first|exact D2i _|exact A0 (by assumption)|exact B9 (by assumption)|simp only[Heap.Le,Heap.set,Heap.del]at* <;>grind) ?_;rintro W rfl i ⟨X,m⟩;by_cases u:i<s.size
   ·have j:decide ((i:Int)<s.size)=true:=D1J (by omega);have y:i<(B s).length:=by omega
    have z:=A6X s i u;have A:=A01 s i u;obtain⟨x,hx⟩: ∃x,x=nth (B s) i:=⟨_,rfl⟩
    have bad:W0 x=false→(B s).all (ofB W0)=false:=fun g=>A3X W0 (B s) i y (by rw[←hx];exact g);rw[←hx]at z A;have U:decide ((i:Int)<(F1 s).length)=true:=D1J (by rw[A25];omega);by_cases c1:x<33
    ·rw[bad (A3b (by omega))]at h;repeat' (first|with_reducible apply D1H|simp only[go_sem,seval,j,z,A,o,c1,decide_true]|omega)
     exact D2j (A0 hb) h
    ·by_cases I:126<x
     ·rw[bad (A3b (by omega))]at h;repeat' (first|with_reducible apply D1H|simp only[go_sem,seval,j,z,A,o,c1,I,decide_true,decide_false]|omega)
      exact D2j (A0 hb) h
     ·have c3:=A47 (x:=x) (by omega) (by omega);have M:B ({data:= #[43,45,42,60,62,61]}:ByteArray)=A83:=rfl;by_cases p:W0 x=true
      ·rw[p]at c3;repeat' (first|with_reducible apply D1H|simp only[go_sem,seval,j,z,A,o,c1,I,M,c3,decide_true,decide_false]|simp(disch:=omega) only[A4,A01]|with_reducible refine A0W _ _ _ ?_|omega)
       exact C4 (i+1) ⟨by omega,by rw[A2m _ _ _ y,m,←hx,p];rfl⟩ (by omega) (by(try simp only[go_sem,seval])<;>(try simp(disch:=omega) [A4])) (D2i _)
      ·have p:W0 x=false:=by simpa using p
       rw[p]at c3;rw[bad p]at h;repeat' (first|with_reducible apply D1H|simp only[go_sem,seval,j,z,A,o,c1,I,M,c3,decide_true,decide_false]|with_reducible refine A0W _ _ _ ?_|omega)
       exact D2j (A0 hb) h
   ·have j:decide ((i:Int)<s.size)=false:=D1K (by omega);rw[D1W (by omega)]at m;rw[m]at h;repeat' simp only[go_sem,seval,j]
    exact D2j (A0 hb) h
 ·have Y:I2 (B s)=false:=by
   rw[←D2d];intro g;unfold I2 at g;simp only[D1U,D1d,Bool.not_eq_true']at g;exact hv ⟨g.1.1.1,by omega,g.1.2⟩
  rw[Y]at h;by_cases v1:B s= []
  ·repeat' (first|with_reducible apply D1H|simp only[go_sem,seval,v1,decide_true])
   exact D2m h
  ·have q:(0:Int)<s.size:=by have:=List.length_pos_iff.2 v1;omega
   by_cases v2:(200:Int)<s.size
   ·repeat' (first|with_reducible apply D1H|simp only[go_sem,seval,v1,v2,q,decide_true,decide_false])
    exact D2m h
   ·have v3:48≤nth (B s) 0∧nth (B s) 0≤57:=by
     rw[←A1O];cases g:V9 (nth (B s) 0)with
     |true=>rfl
     |false=>exact absurd ⟨v1,by omega,g⟩ hv
    repeat' (first|with_reducible apply D1H|simp only[go_sem,seval,v1,v2,q,G,v3.1,v3.2,decide_true,decide_false])
    exact D2m h
theorem A26(P:Program)(t:TypeId)(c:Bool)(x y:ByteArray):K7 P .geq t c (.str x) (.str y)=some (.bool (!Op.bytesLess x.data.toList y.data.toList)):=rfl
theorem A84{Q}(a:LinV)(U:l4 a)(H:Heap)(h:Q (.bool (validL a)) H):D7 96 [.agg (E8 a)] H Q:=by
 refine A9 [] A6 Tryz.func96 rfl ?_;simp only[go_sem,seval,Tryz.results96];intro I M;have e1:(H.set I (.box (E8 a))) I=some (.box (E8 a)):=A3 _ _;have O:H.Le (H.set I (.box (E8 a))):=A0 M;generalize H.set I (.box (E8 a))=Bs at e1 O⊢;have hlen:=U.len;repeat' (first|with_reducible apply D1H|simp only[go_sem,seval,e1]|simp(disch:=omega) only[A4,B3]|simp(disch:=first|omega|grind) only[A8]|intro o|omega)
 refine C8 [1,6,7] (fun(i:Nat)=>[(8,.int .i64 i)]) (fun(i:Nat)=>Bs) (fun(i:Nat)=>i≤a.t.length∧(List.range i).all (A7B a.t)=true) (fun(i:Nat)=>a.t.length-i) (0) (⟨D1c _,rfl⟩) (by(try simp only[go_sem,seval])<;>(try simp(disch:=omega) [A4])) (by first|exact D2i _|exact A0 (by assumption)|exact B9 (by assumption)|simp only[Heap.Le,Heap.set,Heap.del]at* <;>grind) ?_;rintro X rfl i ⟨Y,u⟩;by_cases j:i<a.t.length
 ·have m:decide ((i:Int)<a.t.length)=true:=D1J (by omega);have V:(i:Int)<a.t.length:=by omega
  have W:=U.co _ (D1V j);have e:a.t.getD i default=a.t[i]:=by simp[j]
  have e2: ∀r:i-1<a.t.length,a.t.getD (i-1) default=a.t[i-1]:=fun r=>by simp[r]
  have p:A7B a.t i=(I2 (B a.t[i].v)&&(decide (i=0)||q9 (a.t.getD (i-1) default).v a.t[i].v)&&decide (a.t[i].c≠0)&&N7 a.t[i].c 1048576):=by unfold A7B;rw[e]
  have bad:A7B a.t i=false→validL a=false:=fun g=>by
   unfold validL s9;have:(List.range a.t.length).all (A7B a.t)=false:=by rw[List.all_eq_false];exact⟨i,List.mem_range.2 j,by rw[g];decide⟩
   rw[this];rfl
  by_cases n1:I2 (B a.t[i].v)=true
  ·by_cases n2:i=0
   ·have z: ¬((0:Int)<i):=by omega
    have q:(I2 (B a.t[i].v)&&(decide (i=0)||q9 (a.t.getD (i-1) default).v a.t[i].v))=true:=by rw[n1,D1J n2];rfl
    by_cases x:a.t[i].c=0
    ·rw[bad (by rw[p,q,x];simp)]at h;repeat' (first|with_reducible apply D1H|simp only[go_sem,seval,m,e1,n1,B3 _ _ j,C3 _ _ j,z,x,decide_true,decide_false]|intro o|with_reducible refine N9 _ _ ?_|omega)
     exact D2j (by simp only[F0,D3,D4]at* <;>grind) h
    ·by_cases w:N7 a.t[i].c 1048576=true
     ·have A:A7B a.t i=true:=by rw[p,q,w,D1J (show a.t[i].c≠0 from x)];rfl
      repeat' (first|with_reducible apply D1H|simp only[go_sem,seval,m,e1,n1,B3 _ _ j,C3 _ _ j,z,x,w,decide_true,decide_false]|simp(disch:=omega) only[A4,B3]|intro o|with_reducible refine N9 _ _ ?_|with_reducible refine W5 _ _ (by omega) (by omega) _ ?_|omega)
      exact C4 (i+1) ⟨by omega,by rw[List.range_succ,D2L,u];simp[A]⟩ (by omega) (by(try simp only[go_sem,seval])<;>(try simp(disch:=omega) [A4])) (by simp only[F0,D3,D4]at* <;>grind)
     ·have w:N7 a.t[i].c 1048576=false:=by simpa using w
      rw[bad (by rw[p,q,w,Bool.and_false])]at h;repeat' (first|with_reducible apply D1H|simp only[go_sem,seval,m,e1,n1,B3 _ _ j,C3 _ _ j,z,x,w,decide_true,decide_false]|intro o|with_reducible refine N9 _ _ ?_|with_reducible refine W5 _ _ (by omega) (by omega) _ ?_|omega)
      exact D2j (by simp only[F0,D3,D4]at* <;>grind) h
   ·have r:i-1<a.t.length:=by omega
    have z:(0:Int)<i:=by omega
    have J:(i:Int)-1=((i-1:Nat):Int):=by omega
    have y:((i-1:Nat):Int)<a.t.length:=by omega
    by_cases l:q9 a.t[i-1].v a.t[i].v=true
    ·have q:(I2 (B a.t[i].v)&&(decide (i=0)||q9 (a.t.getD (i-1) default).v a.t[i].v))=true:=by rw[n1,e2 r,l,Bool.or_true];rfl
     have G:Op.bytesLess a.t[i-1].v.data.toList a.t[i].v.data.toList=true:=l;by_cases x:a.t[i].c=0
     ·rw[bad (by rw[p,q,x];simp)]at h;repeat' (first|with_reducible apply D1H|simp only[go_sem,seval,m,e1,n1,B3 _ _ j,C3 _ _ j,z,J,y,B3 _ _ r,C3 _ _ r,A26,G,D2f,D2g,x,decide_true,decide_false]|simp(disch:=omega) only[A4,B3]|simp(disch:=first|omega|grind) only[A8]|intro o|with_reducible refine N9 _ _ ?_|omega)
      exact D2j (by simp only[F0,D3,D4]at* <;>grind) h
     ·by_cases w:N7 a.t[i].c 1048576=true
      ·have A:A7B a.t i=true:=by rw[p,q,w,D1J (show a.t[i].c≠0 from x)];rfl
       repeat' (first|with_reducible apply D1H|simp only[go_sem,seval,m,e1,n1,B3 _ _ j,C3 _ _ j,z,J,y,B3 _ _ r,C3 _ _ r,A26,G,D2f,D2g,x,w,decide_true,decide_false]|simp(disch:=omega) only[A4,B3]|simp(disch:=first|omega|grind) only[A8]|intro o|with_reducible refine N9 _ _ ?_|with_reducible refine W5 _ _ (by omega) (by omega) _ ?_|omega)
       exact C4 (i+1) ⟨by omega,by rw[List.range_succ,D2L,u];simp[A]⟩ (by omega) (by(try simp only[go_sem,seval])<;>(try simp(disch:=omega) [A4])) (by simp only[F0,D3,D4]at* <;>grind)
      ·have w:N7 a.t[i].c 1048576=false:=by simpa using w
       rw[bad (by rw[p,q,w,Bool.and_false])]at h;repeat' (first|with_reducible apply D1H|simp only[go_sem,seval,m,e1,n1,B3 _ _ j,C3 _ _ j,z,J,y,B3 _ _ r,C3 _ _ r,A26,G,D2f,D2g,x,w,decide_true,decide_false]|simp(disch:=omega) only[A4,B3]|simp(disch:=first|omega|grind) only[A8]|intro o|with_reducible refine N9 _ _ ?_|with_reducible refine W5 _ _ (by omega) (by omega) _ ?_|omega)
       exact D2j (by simp only[F0,D3,D4]at* <;>grind) h
    ·have l:q9 a.t[i-1].v a.t[i].v=false:=by simpa using l
     have G:Op.bytesLess a.t[i-1].v.data.toList a.t[i].v.data.toList=false:=l;rw[bad (by rw[p,n1,e2 r,l,D1K n2];rfl)]at h;repeat' (first|with_reducible apply D1H|simp only[go_sem,seval,m,e1,n1,B3 _ _ j,C3 _ _ j,z,J,y,B3 _ _ r,C3 _ _ r,A26,G,D2f,D2g,decide_true,decide_false]|simp(disch:=omega) only[A4,B3]|simp(disch:=first|omega|grind) only[A8]|intro o|with_reducible refine N9 _ _ ?_|omega)
     exact D2j (by simp only[F0,D3,D4]at* <;>grind) h
  ·have n1:I2 (B a.t[i].v)=false:=by simpa using n1
   rw[bad (by rw[p,n1];rfl)]at h;repeat' (first|with_reducible apply D1H|simp only[go_sem,seval,m,e1,n1,B3 _ _ j,C3 _ _ j]|intro o|with_reducible refine N9 _ _ ?_|omega)
   exact D2j (by simp only[F0,D3,D4]at* <;>grind) h
 ·have m:decide ((i:Int)<a.t.length)=false:=D1K (by omega);have T:i=a.t.length:=by omega
  subst T;have hv:validL a=(decide (a.t.length≤12)&&N7 a.k 1099511627776):=by unfold validL s9;rw[u];rfl
  rw[hv]at h;by_cases c1:(a.t.length:Int)≤12
  ·rw[D1J (show a.t.length≤12 by omega)]at h;repeat' (first|simp only[go_sem,seval,m,e1,c1,decide_true]|with_reducible refine W5 _ _ (by omega) (by omega) _ ?_)
   all_goals exact D2j (by simp only[F0,D3,D4]at* <;>grind) h
  ·rw[D1K (show¬a.t.length≤12 by omega)]at h;repeat' simp only[go_sem,seval,m,e1,c1,decide_false]
   all_goals exact D2j (by simp only[F0,D3,D4]at* <;>grind) h
end Go.Proofs.YtibphjonmikciaaGreatDoor
namespace Go.Lin
open Go Go.Av Go.Lexs
theorem A3k(k n:Int)(e:Bool):NilR (.tuple [.agg [.nilsl,.int .i64 k,.bool e],.int .i64 n]) (.tuple [.agg (E8 ⟨[],k,e⟩),.int .i64 n]):=by
 refine .tuple _ _ rfl fun i d d' h1 h=>?_
 match i with
 |0=>
  cases h1;cases h;refine .agg _ _ rfl fun i d d' h1 h=>?_
  match i with
  |0=>cases h1;cases h;exact .nil _
  |1=>cases h1;cases h;exact .same _
  |2=>cases h1;cases h;exact .same _
  |i+3=>cases h1
 |1=>cases h1;cases h;exact .same _
 |i+2=>cases h1
end Go.Lin
namespace Go.Proofs.YtibphjonmikciaaGreatDoor
open Go Go.Av Go.Lexs Go.Lin
attribute [local irreducible] ACalls S9
theorem B6h{Q}(l:List VlV)(I:A7e l)(H:Heap)(h:Q (.bool (N2 l)) H):D7 61 [.sl 2 (Rw vlC l)] H Q:=by
 refine A9 [] A6 Tryz.func61 rfl ?_;simp only[go_sem,seval,Tryz.results61];have hlen:=I.len;refine C8 [0,5,6] (fun(i:Nat)=>[(7,.int .i64 i)]) (fun(i:Nat)=>H) (fun(i:Nat)=>i≤l.length∧(List.range i).all (okV l)=true) (fun(i:Nat)=>l.length-i) (0) (⟨D1c _,rfl⟩) (by(try simp only[go_sem,seval])<;>(try simp(disch:=omega) [A4])) (by first|exact D2i _|exact A0 (by assumption)|exact B9 (by assumption)|simp only[Heap.Le,Heap.set,Heap.del]at* <;>grind) ?_;rintro M rfl i ⟨O,p⟩;by_cases j:i<l.length
 ·have m:decide ((i:Int)<l.length)=true:=D1J (by omega);have J:(i:Int)<l.length:=by omega
  have e:l.getD i default=l[i]:=by simp[j]
  have e2: ∀q:i-1<l.length,l.getD (i-1) default=l[i-1]:=fun q=>by simp[q]
  have o:okV l i=(I2 (B l[i].v)&&(decide (i=0)||q9 (l.getD (i-1) default).v l[i].v)&&N7 l[i].n 2147483647):=by unfold okV;rw[e]
  have bad:okV l i=false→N2 l=false:=fun g=>by
   unfold N2;have:(List.range l.length).all (okV l)=false:=by rw[List.all_eq_false];exact⟨i,List.mem_range.2 j,by rw[g];decide⟩
   rw[this];rfl
  by_cases n1:I2 (B l[i].v)=true
  ·by_cases n2:i=0
   ·have y: ¬((0:Int)<i):=by omega
    by_cases w:N7 l[i].n 2147483647=true
    ·have u:okV l i=true:=by rw[o,n1,w,D1J n2];rfl
     repeat' (first|with_reducible apply D1H|simp only[go_sem,seval,m,n1,B3 _ _ j,C3 _ _ j,y,w,D2f,D2g,decide_true,decide_false]|simp(disch:=omega) only[A4,B3]|intro r|with_reducible refine N9 _ _ ?_|with_reducible refine W5 _ _ (by omega) (by omega) _ ?_|omega)
     exact C4 (i+1) ⟨by omega,by rw[List.range_succ,D2L,p];simp[u]⟩ (by omega) (by(try simp only[go_sem,seval])<;>(try simp(disch:=omega) [A4])) (by simp only[F0,D3,D4]at* <;>grind)
    ·have w:N7 l[i].n 2147483647=false:=by simpa using w
     rw[bad (by rw[o,w,Bool.and_false])]at h;repeat' (first|with_reducible apply D1H|simp only[go_sem,seval,m,n1,B3 _ _ j,C3 _ _ j,y,w,D2f,D2g,decide_true,decide_false]|intro r|with_reducible refine N9 _ _ ?_|with_reducible refine W5 _ _ (by omega) (by omega) _ ?_|omega)
     exact D2j (by simp only[F0,D3,D4]at* <;>grind) h
   ·have q:i-1<l.length:=by omega
    have y:(0:Int)<i:=by omega
    have A:(i:Int)-1=((i-1:Nat):Int):=by omega
    have x:((i-1:Nat):Int)<l.length:=by omega
    by_cases g:q9 l[i-1].v l[i].v=true
    ·have z:Op.bytesLess l[i-1].v.data.toList l[i].v.data.toList=true:=g;by_cases w:N7 l[i].n 2147483647=true
     ·have u:okV l i=true:=by rw[o,n1,w,e2 q,g,Bool.or_true];rfl
      repeat' (first|with_reducible apply D1H|simp only[go_sem,seval,m,n1,B3 _ _ j,C3 _ _ j,y,A,x,B3 _ _ q,C3 _ _ q,A26,z,w,D2f,D2g,decide_true,decide_false]|simp(disch:=omega) only[A4,B3]|intro r|with_reducible refine N9 _ _ ?_|with_reducible refine W5 _ _ (by omega) (by omega) _ ?_|omega)
      exact C4 (i+1) ⟨by omega,by rw[List.range_succ,D2L,p];simp[u]⟩ (by omega) (by(try simp only[go_sem,seval])<;>(try simp(disch:=omega) [A4])) (by simp only[F0,D3,D4]at* <;>grind)
     ·have w:N7 l[i].n 2147483647=false:=by simpa using w
      rw[bad (by rw[o,w,Bool.and_false])]at h;repeat' (first|with_reducible apply D1H|simp only[go_sem,seval,m,n1,B3 _ _ j,C3 _ _ j,y,A,x,B3 _ _ q,C3 _ _ q,A26,z,w,D2f,D2g,decide_true,decide_false]|simp(disch:=omega) only[A4,B3]|intro r|with_reducible refine N9 _ _ ?_|with_reducible refine W5 _ _ (by omega) (by omega) _ ?_|omega)
      exact D2j (by simp only[F0,D3,D4]at* <;>grind) h
    ·have g:q9 l[i-1].v l[i].v=false:=by simpa using g
     have z:Op.bytesLess l[i-1].v.data.toList l[i].v.data.toList=false:=g;rw[bad (by rw[o,n1,e2 q,g,D1K n2];rfl)]at h;repeat' (first|with_reducible apply D1H|simp only[go_sem,seval,m,n1,B3 _ _ j,C3 _ _ j,y,A,x,B3 _ _ q,C3 _ _ q,A26,z,D2f,D2g,decide_true,decide_false]|simp(disch:=omega) only[A4,B3]|intro r|with_reducible refine N9 _ _ ?_|omega)
     exact D2j (by simp only[F0,D3,D4]at* <;>grind) h
  ·have n1:I2 (B l[i].v)=false:=by simpa using n1
   rw[bad (by rw[o,n1];rfl)]at h;repeat' (first|with_reducible apply D1H|simp only[go_sem,seval,m,n1,B3 _ _ j,C3 _ _ j,D2f,D2g,decide_true,decide_false]|intro r|with_reducible refine N9 _ _ ?_|omega)
   exact D2j (by simp only[F0,D3,D4]at* <;>grind) h
 ·have m:decide ((i:Int)<l.length)=false:=D1K (by omega);have G:i=l.length:=by omega
  subst G;have hv:N2 l=decide ((l.length:Int)≤24):=by
   unfold N2;rw[p];by_cases g:l.length≤24
   ·rw[D1J g,D1J (show (l.length:Int)≤24 by omega)];rfl
   ·rw[D1K g,D1K (show¬(l.length:Int)≤24 by omega)];rfl
  rw[hv]at h;repeat' simp only[go_sem,seval,m]
  exact D2j (by simp only[F0,D3,D4]at* <;>grind) h
end Go.Proofs.YtibphjonmikciaaGreatDoor
namespace Go.Lin
open Go Go.Av
theorem A0P{n:Int}(h:0≤n)(h1:n<18446744073709551616):IntKind.u64.wrap n=n:=by
 simp only[IntKind.wrap,IntKind.signed,IntKind.bits];simp;omega
theorem A7D{n:Int}:IntKind.u32.wrap n=n % 4294967296:=by
 simp only[IntKind.wrap,IntKind.signed,IntKind.bits];simp
theorem B9v{n:Int}(h:0≤n)(h1:n<4294967296):IntKind.u32.wrap n=n:=by rw[A7D];omega
theorem C3p{r x:Nat}(hr:r<4294967296)(hx:x<4294967296):IntKind.u64.wrap (((BitVec.ofInt 64 ((r:Int)*4294967296)|||BitVec.ofInt 64 (x:Int)).toNat:Nat):Int)=((r*4294967296+x:Nat):Int):=by
 have e1:BitVec.ofInt 64 ((r:Int)*4294967296)=BitVec.ofNat 64 (r*4294967296):=by
  rw[show ((r:Int)*4294967296)=((r*4294967296:Nat):Int)by omega,BitVec.ofInt_natCast]
 rw[e1,BitVec.ofInt_natCast,BitVec.toNat_or,BitVec.toNat_ofNat,BitVec.toNat_ofNat,D2I (by omega),D2I (by omega)];have e2:r*4294967296|||x=r*4294967296+x:=by
  have:=Nat.two_pow_add_eq_or_of_lt (i:=32) (b:=x) (by simpa using hx) r;rw[show r*4294967296=2 ^ 32*r by omega];exact this.symm
 rw[e2];exact A0P (by omega) (by omega)
section
variable {P:Program} {t:Nat} {c:Bool}
@[go_sem] theorem C8d(a:Int):K7 P .shr t c (.int .u64 a) (.int .u64 32)=some (.int .u64 (a / 4294967296)):=by
 show (if(32:Int)<0 then none else some (D.int .u64 (a.fdiv (2 ^ (min (32:Int).toNat IntKind.u64.bits)))))=_;rw[if_neg (by decide)];have e:(2:Int) ^ (min (32:Int).toNat IntKind.u64.bits)=4294967296:=by decide
 rw[e,Int.fdiv_eq_ediv_of_nonneg _ (by decide)]
@[go_sem] theorem C9e(a:Int):K7 P .shr t c (.int .i64 a) (.int .u64 32)=some (.int .i64 (a / 4294967296)):=by
 show (if(32:Int)<0 then none else some (D.int .i64 (a.fdiv (2 ^ (min (32:Int).toNat IntKind.i64.bits)))))=_;rw[if_neg (by decide)];have e:(2:Int) ^ (min (32:Int).toNat IntKind.i64.bits)=4294967296:=by decide
 rw[e,Int.fdiv_eq_ediv_of_nonneg _ (by decide)]
@[go_sem] theorem C8e(a:Int):K7 P .shl t c (.int .u64 a) (.int .u64 32)=some (.int .u64 (IntKind.u64.wrap (a*4294967296))):=by
 show (if(32:Int)<0 then none else some (D.int .u64 (IntKind.u64.wrap (a*(2 ^ (min (32:Int).toNat IntKind.u64.bits))))))=_;rw[if_neg (by decide)];have e:(2:Int) ^ (min (32:Int).toNat IntKind.u64.bits)=4294967296:=by decide
 rw[e]
@[go_sem] theorem C9f(a b:Int):K7 P .or t c (.int .u64 a) (.int .u64 b)=some (.int .u64 (IntKind.u64.wrap ((BitVec.ofInt 64 a|||BitVec.ofInt 64 b).toNat:Nat))):=rfl
end
end Go.Lin
namespace Go.Proofs.YtibphjonmikciaaGreatDoor
open Go Go.Av Go.Lin
attribute [local irreducible] ACalls S9
theorem A4Z{Q}(l:List Nat)(b:Nat)(H:Heap)(n:Nat)(hn:n=l.length)(hl:l.length≤1000000)(hb:H b=some (.vec 1 (Rw F4 l)))(h:Q (.vec b 1 0 (A0I l n)) H):D7 287 [.vec b 1 0 n] H Q:=by
 subst hn;refine A9 [] A6 Tryz.func287 rfl ?_;simp only[go_sem,seval,Tryz.results287];repeat' (first|with_reducible apply D1H|simp only[go_sem,seval]|simp(disch:=omega) only[A4]|intro i|omega)
 refine C8 [] (fun(m:Nat)=>[(0,.vec b 1 0 m)]) (fun(m:Nat)=>H) (fun(m:Nat)=>m≤l.length∧A0I l m=A0I l l.length) (fun(m:Nat)=>m) (l.length) (⟨D1b _,rfl⟩) (by simp only[go_sem,seval]) (by first|exact D2i _|exact A0 (by assumption)|exact B9 (by assumption)|simp only[Heap.Le,Heap.set,Heap.del]at* <;>grind) ?_;rintro r rfl m ⟨hm,ht⟩;by_cases u:0<m
 ·obtain⟨k,rfl⟩: ∃k,m=k+1:=⟨m-1,by omega⟩
  have hk:k<l.length:=by omega
  have q:l.getD k 0=l[k]:=by simp[hk]
  have p:(((k+1:Nat):Int)-1)=(k:Int):=by omega
  rw[A0I,q]at ht;by_cases j:l[k]=0
  ·rw[if_pos j]at ht;repeat' (first|with_reducible apply D1H|simp only[go_sem,seval,hb,B3 _ _ hk,C3 _ _ hk,p,j,decide_true]|simp(disch:=omega) only[A4]|intro i|omega)
   exact C4 k ⟨by omega,ht⟩ (by omega) (by simp only[go_sem,seval]) (D2i _)
  ·rw[if_neg j]at ht;have o: ¬((l[k]:Nat):Int)=0:=by omega
   repeat' (first|with_reducible apply D1H|simp only[go_sem,seval,hb,B3 _ _ hk,C3 _ _ hk,p,o,decide_false]|simp(disch:=omega) only[A4]|intro i|omega)
   rw[←ht]at h;exact D2m h
 ·have e:m=0:=by omega
  subst e;rw[A0I]at ht;repeat' (first|with_reducible apply D1H|simp only[go_sem,seval]|simp(disch:=omega) only[A4]|intro i|omega)
  rw[←ht]at h;exact D2m h
theorem A15{Q:D→Heap→Prop}{H:Heap}{b n:Nat}{l:List Nat}(hd:Dig l)(hn:n=l.length)(hb:H b=some (.vec 1 (Rw F4 l)))(h:Av.Fin Q (X6 (F2 l)) (H.del b)):Av.Fin Q (.vec b 1 0 (A0I l n)) H:=by
 subst hn;refine Fin.freeze hb (.vec 0 _ (by rw[Nat.zero_add,D6];exact B0V _ _)) ?_;rw[List.drop_zero,A8p,B0W hd];exact h
theorem C3q{Q}(n:Nat)(hn:n<18446744073709551616)(H:Heap)(h:Q (X6 n) H):D7 265 [.int .u64 n] H Q:=by
 refine A9 [] A6 Tryz.func265 rfl ?_;simp only[go_sem,seval,Tryz.results265];repeat' intro i
 rename_i b;have hb:=i;clear i;have e1:IntKind.u32.wrap (n:Int)=((n % 4294967296:Nat):Int):=by rw[A7D];omega
 have e2:IntKind.u32.wrap ((n:Int) / 4294967296)=((n / 4294967296:Nat):Int):=by rw[A7D];omega
 have hd:Dig [n % 4294967296,n / 4294967296]:=fun x hx=>by
  simp only[D1j,D1k,or_false]at hx;rcases hx with rfl|rfl<;>omega
 have hv:F2 [n % 4294967296,n / 4294967296]=n:=by simp only[F2];omega
 rw[e1,e2];refine A4Z [n % 4294967296,n / 4294967296] b _ 2 rfl (by simp) (A3 _ _) ?_;repeat' simp only[go_sem,seval]
 refine A15 hd rfl (A3 _ _) ?_;rw[hv,E9 hb];exact D2m h
def C7P(a b:Nat)(c:Int):Prop:=(c<0↔a<b)∧(c=0↔a=b)
theorem B6i{Q}(a b:Nat)(T:(C2 a).length≤1000000)(hb:(C2 b).length≤1000000)(H:Heap)(h: ∀c:Int,C7P a b c→Q (.int .i64 c) H):D7 283 [X6 a,X6 b] H Q:=by
 refine A9 [] A6 Tryz.func283 rfl ?_;simp only[go_sem,seval,Tryz.results283];have x:=K9 a;have y:=K9 b;have I:=P6 a;have J:=P6 b;by_cases hl:(C2 a).length=(C2 b).length
 ·have z:((C2 a).length:Int)=(C2 b).length:=by omega
  repeat' (first|with_reducible apply D1H|simp only[go_sem,seval,z,bne_self_eq_false]|simp(disch:=omega) only[A4,B3])
  refine C8 [0,1] (fun(k:Nat)=>[(5,.int .i64 ((k:Int)-1))]) (fun(k:Nat)=>H) (fun(k:Nat)=>k≤(C2 a).length∧(C2 a).drop k=(C2 b).drop k) (fun(k:Nat)=>k) ((C2 b).length) (⟨by omega,by rw[List.drop_length,List.drop_eq_nil_of_le (by omega)]⟩) (by simp only[go_sem,seval]) (by first|exact D2i _|exact A0 (by assumption)|exact B9 (by assumption)|simp only[Heap.Le,Heap.set,Heap.del]at* <;>grind) ?_;rintro U rfl k ⟨hk,i⟩;by_cases V:0<k
  ·obtain⟨j,rfl⟩: ∃j,k=j+1:=⟨k-1,by omega⟩
   have o:j<(C2 a).length:=by omega
   have p:j<(C2 b).length:=by omega
   have A:(((j+1:Nat):Int)-1)=(j:Int):=by omega
   have u:decide ((0:Int)≤(j:Int))=true:=D1J (by omega);by_cases he:(C2 a)[j]=(C2 b)[j]
   ·have m:((((C2 a)[j]:Nat):Int) != (((C2 b)[j]:Nat):Int))=false:=by rw[he];exact bne_self_eq_false _
    repeat' (first|with_reducible apply D1H|simp only[go_sem,seval,B3 _ _ o,C3 _ _ o,B3 _ _ p,C3 _ _ p,A,u,m]|simp(disch:=omega) only[A4,B3]|intro q|omega)
    exact C4 j ⟨by omega,by rw[D1m o,D1m p,i,he]⟩ (by omega) (by simp only[go_sem,seval]) (D2i _)
   ·have m:((((C2 a)[j]:Nat):Int) != (((C2 b)[j]:Nat):Int))=true:=by rw[bne_iff_ne];omega
    by_cases G:(C2 a)[j]<(C2 b)[j]
    ·have r:decide ((((C2 a)[j]:Nat):Int)<(((C2 b)[j]:Nat):Int))=true:=D1J (by omega);repeat' (first|with_reducible apply D1H|simp only[go_sem,seval,B3 _ _ o,C3 _ _ o,B3 _ _ p,C3 _ _ p,A,u,m,r]|simp(disch:=omega) only[A4,B3]|intro q|omega)
     have:=B0Y I J hl o i G;rw[x,y]at this;exact D2m (h _ ⟨by omega,by omega⟩)
    ·have r:decide ((((C2 a)[j]:Nat):Int)<(((C2 b)[j]:Nat):Int))=false:=D1K (by omega);repeat' (first|with_reducible apply D1H|simp only[go_sem,seval,B3 _ _ o,C3 _ _ o,B3 _ _ p,C3 _ _ p,A,u,m,r]|simp(disch:=omega) only[A4,B3]|intro q|omega)
     have:=B0Y J I hl.symm p i.symm (by omega);rw[x,y]at this;exact D2m (h _ ⟨by omega,by omega⟩)
  ·have e:k=0:=by omega
   subst e;have u:decide ((0:Int)≤(((0:Nat):Int)-1))=false:=by decide
   rw[List.drop_zero,List.drop_zero]at i;have M:a=b:=by rw[←x,←y,i]
   repeat' simp only[go_sem,seval,u]
   exact D2m (h _ ⟨by omega,by omega⟩)
 ·have O:((((C2 a).length:Nat):Int) != (((C2 b).length:Nat):Int))=true:=by rw[bne_iff_ne];omega
  repeat' (first|with_reducible apply D1H|simp(disch:=omega) only[A4,B3]|intro q|omega)
  refine D2m (h _ ?_);rcases Nat.lt_or_gt_of_ne hl with g|g
  ·have:=A0V g;exact⟨by omega,by omega⟩
  ·have:=A0V g;exact⟨by omega,by omega⟩
theorem B6j{Q}(m n:Nat)(hm:(C2 m).length≤100000)(hn:(C2 n).length≤100000)(H:Heap)(h:Q (X6 (m+n)) H):D7 279 [X6 m,X6 n] H Q:=by
 refine A9 [] A6 Tryz.func279 rfl ?_;simp only[go_sem,seval,Tryz.results279];by_cases X:(C2 m).length<(C2 n).length
 ·have u:decide (((C2 m).length:Int)<(C2 n).length)=true:=D1J (by omega);repeat' (first|with_reducible apply D1H|simp only[go_sem,seval,u]|simp(disch:=omega) only[A4,B3,J8]|intro x|omega)
  rename_i M;have I:=x;clear x;have y:([D.int .u32 0]::List.replicate (C2 n).length [D.int .u32 0])=Rw F4 (S4 [] ((C2 n).length+1)):=by rw[←List.replicate_succ,A6V];exact A6L _ _ _ rfl
  rw[y];refine C8 [0,1,5,20] (fun(p:List Nat×Nat)=>[(21,.int .i64 p.1.length),(6,.int .u64 p.2)]) (fun(p:List Nat×Nat)=>H.set M (.vec 1 (Rw F4 (S4 p.1 ((C2 n).length+1))))) (fun(p:List Nat×Nat)=>p.1.length≤(C2 n).length∧Dig p.1∧p.2≤1∧F2 p.1+4294967296 ^ p.1.length*p.2=F2 ((C2 n).take p.1.length)+F2 ((C2 m).take p.1.length)) (fun(p:List Nat×Nat)=>(C2 n).length-p.1.length) (([],0)) (⟨D1c _,by simp[Dig],by simp,by simp[F2]⟩) (by(try simp only[go_sem,seval])<;>(try simp(disch:=omega) [A4])) (by first|exact D2i _|exact A0 (by assumption)|exact B9 (by assumption)|simp only[Heap.Le,Heap.set,Heap.del]at* <;>grind) ?_;rintro Y rfl ⟨L,c⟩ ⟨U,A,hc,hv⟩;simp only at U A hc hv;have o:=A6U L ((C2 n).length+1) (by omega);by_cases i:L.length<(C2 n).length
  ·have j:decide ((L.length:Int)<(C2 n).length)=true:=D1J (by omega);have x1:=J8 (P6 n) i;have O:IntKind.u64.wrap (((C2 n)[L.length]:Nat):Int)=(((C2 n)[L.length]:Nat):Int):=A0P (by omega) (by omega);have J:IntKind.u64.wrap ((c:Int)+((C2 n)[L.length]:Nat))=((c+(C2 n)[L.length]:Nat):Int):=by rw[A0P (by omega) (by omega)];omega
   have T:L.length<(S4 L ((C2 n).length+1)).length:=by omega
   by_cases G:L.length<(C2 m).length
   ·have q:decide ((L.length:Int)<(C2 m).length)=true:=D1J (by omega);have y1:=J8 (P6 m) G;have V:IntKind.u64.wrap (((C2 m)[L.length]:Nat):Int)=(((C2 m)[L.length]:Nat):Int):=A0P (by omega) (by omega);obtain⟨s,hs⟩: ∃s,s=c+(C2 n)[L.length]+(C2 m)[L.length]:=⟨_,rfl⟩
    have W:IntKind.u64.wrap (((c+(C2 n)[L.length]:Nat):Int)+((C2 m)[L.length]:Nat))=(s:Int):=by rw[A0P (by omega) (by omega)];omega
    have w5:IntKind.u32.wrap (s:Int)=((s % 4294967296:Nat):Int):=by rw[A7D];omega
    have w6:(s:Int) / 4294967296=((s / 4294967296:Nat):Int):=by omega
    have e1:(Rw F4 (S4 L ((C2 n).length+1))).set L.length [.int .u32 ((s % 4294967296:Nat):Int)]=Rw F4 (S4 (L++[s % 4294967296]) ((C2 n).length+1)):=by rw[←j0 L _ _ (by omega)];exact Y7 _ _ _ _ rfl
    repeat' (first|with_reducible apply D1H|simp only[go_sem,seval,j,q,o,B3 _ _ i,C3 _ _ i,B3 _ _ G,C3 _ _ G,O,J,V,W,w5,w6,e1]|simp(disch:=omega) only[A4,B3,J8]|omega)
    refine C4 (L++[s % 4294967296],s / 4294967296) ⟨by simp only[D1N,D1P];omega,i8 A (by omega),by simp only[];omega,?_⟩ (by simp only[D1N,D1P];omega) (by(try simp only[go_sem,seval,D1N,D1P])<;>(try simp(disch:=omega) [A4])) (D2i _);simp only[D1N,D1P];rw[A1S,G9 _ _ i,G9 _ _ G,hs,Nat.mul_add,Nat.mul_add];omega
   ·have q:decide ((L.length:Int)<(C2 m).length)=false:=D1K (by omega);obtain⟨s,hs⟩: ∃s,s=c+(C2 n)[L.length]:=⟨_,rfl⟩
    rw[←hs]at J;have w5:IntKind.u32.wrap (s:Int)=((s % 4294967296:Nat):Int):=by rw[A7D];omega
    have w6:(s:Int) / 4294967296=((s / 4294967296:Nat):Int):=by omega
    have e1:(Rw F4 (S4 L ((C2 n).length+1))).set L.length [.int .u32 ((s % 4294967296:Nat):Int)]=Rw F4 (S4 (L++[s % 4294967296]) ((C2 n).length+1)):=by rw[←j0 L _ _ (by omega)];exact Y7 _ _ _ _ rfl
    repeat' (first|with_reducible apply D1H|simp only[go_sem,seval,j,q,o,B3 _ _ i,C3 _ _ i,O,J,w5,w6,e1]|simp(disch:=omega) only[A4,B3,J8]|omega)
    refine C4 (L++[s % 4294967296],s / 4294967296) ⟨by simp only[D1N,D1P];omega,i8 A (by omega),by simp only[];omega,?_⟩ (by simp only[D1N,D1P];omega) (by(try simp only[go_sem,seval,D1N,D1P])<;>(try simp(disch:=omega) [A4])) (D2i _);simp only[D1N,D1P];rw[D1W (l:=C2 m) (by omega)]at hv;rw[A1S,G9 _ _ i,D1W (l:=C2 m) (by omega),hs,Nat.mul_add];omega
  ·have j:decide ((L.length:Int)<(C2 n).length)=false:=D1K (by omega);have r:L.length=(C2 n).length:=by omega
   have w5:IntKind.u32.wrap (c:Int)=((c:Nat):Int):=B9v (by omega) (by omega);have e1:(Rw F4 (S4 L ((C2 n).length+1))).set (C2 n).length [.int .u32 ((c:Nat):Int)]=Rw F4 (L++[c]):=by
    rw[←r,←A4W (L++[c]) (L.length+1) (by simp),←j0 L _ _ (by omega)];exact Y7 _ _ _ _ rfl
   have z:F2 (L++[c])=m+n:=by
    rw[w9,hv,D1W (by omega),D1W (by omega),K9,K9];omega
   repeat' (first|with_reducible apply D1H|simp only[go_sem,seval,j,o,w5,e1]|simp(disch:=omega) only[A4,B3,J8]|omega)
   refine A4Z (L++[c]) M _ _ (by simp[r]) (by simp;omega) (A3 _ _) ?_;repeat' simp only[go_sem,seval]
   refine A15 (l:=L++[c]) (i8 A (show c<4294967296 by omega)) (by simp[r]) (A3 _ _) ?_;rw[z,E9 I];exact D2m h
 ·have u:decide (((C2 m).length:Int)<(C2 n).length)=false:=D1K (by omega);repeat' (first|with_reducible apply D1H|simp only[go_sem,seval,u]|simp(disch:=omega) only[A4,B3,J8]|intro x|omega)
  rename_i M;have I:=x;clear x;have y:([D.int .u32 0]::List.replicate (C2 m).length [D.int .u32 0])=Rw F4 (S4 [] ((C2 m).length+1)):=by rw[←List.replicate_succ,A6V];exact A6L _ _ _ rfl
  rw[y];refine C8 [0,1,5,20] (fun(p:List Nat×Nat)=>[(21,.int .i64 p.1.length),(6,.int .u64 p.2)]) (fun(p:List Nat×Nat)=>H.set M (.vec 1 (Rw F4 (S4 p.1 ((C2 m).length+1))))) (fun(p:List Nat×Nat)=>p.1.length≤(C2 m).length∧Dig p.1∧p.2≤1∧F2 p.1+4294967296 ^ p.1.length*p.2=F2 ((C2 m).take p.1.length)+F2 ((C2 n).take p.1.length)) (fun(p:List Nat×Nat)=>(C2 m).length-p.1.length) (([],0)) (⟨D1c _,by simp[Dig],by simp,by simp[F2]⟩) (by(try simp only[go_sem,seval])<;>(try simp(disch:=omega) [A4])) (by first|exact D2i _|exact A0 (by assumption)|exact B9 (by assumption)|simp only[Heap.Le,Heap.set,Heap.del]at* <;>grind) ?_;rintro Y rfl ⟨L,c⟩ ⟨U,A,hc,hv⟩;simp only at U A hc hv;have o:=A6U L ((C2 m).length+1) (by omega);by_cases i:L.length<(C2 m).length
  ·have j:decide ((L.length:Int)<(C2 m).length)=true:=D1J (by omega);have x1:=J8 (P6 m) i;have O:IntKind.u64.wrap (((C2 m)[L.length]:Nat):Int)=(((C2 m)[L.length]:Nat):Int):=A0P (by omega) (by omega);have J:IntKind.u64.wrap ((c:Int)+((C2 m)[L.length]:Nat))=((c+(C2 m)[L.length]:Nat):Int):=by rw[A0P (by omega) (by omega)];omega
   have T:L.length<(S4 L ((C2 m).length+1)).length:=by omega
   by_cases G:L.length<(C2 n).length
   ·have q:decide ((L.length:Int)<(C2 n).length)=true:=D1J (by omega);have y1:=J8 (P6 n) G;have V:IntKind.u64.wrap (((C2 n)[L.length]:Nat):Int)=(((C2 n)[L.length]:Nat):Int):=A0P (by omega) (by omega);obtain⟨s,hs⟩: ∃s,s=c+(C2 m)[L.length]+(C2 n)[L.length]:=⟨_,rfl⟩
    have W:IntKind.u64.wrap (((c+(C2 m)[L.length]:Nat):Int)+((C2 n)[L.length]:Nat))=(s:Int):=by rw[A0P (by omega) (by omega)];omega
    have w5:IntKind.u32.wrap (s:Int)=((s % 4294967296:Nat):Int):=by rw[A7D];omega
    have w6:(s:Int) / 4294967296=((s / 4294967296:Nat):Int):=by omega
    have e1:(Rw F4 (S4 L ((C2 m).length+1))).set L.length [.int .u32 ((s % 4294967296:Nat):Int)]=Rw F4 (S4 (L++[s % 4294967296]) ((C2 m).length+1)):=by rw[←j0 L _ _ (by omega)];exact Y7 _ _ _ _ rfl
    repeat' (first|with_reducible apply D1H|simp only[go_sem,seval,j,q,o,B3 _ _ i,C3 _ _ i,B3 _ _ G,C3 _ _ G,O,J,V,W,w5,w6,e1]|simp(disch:=omega) only[A4,B3,J8]|omega)
    refine C4 (L++[s % 4294967296],s / 4294967296) ⟨by simp only[D1N,D1P];omega,i8 A (by omega),by simp only[];omega,?_⟩ (by simp only[D1N,D1P];omega) (by(try simp only[go_sem,seval,D1N,D1P])<;>(try simp(disch:=omega) [A4])) (D2i _);simp only[D1N,D1P];rw[A1S,G9 _ _ i,G9 _ _ G,hs,Nat.mul_add,Nat.mul_add];omega
   ·have q:decide ((L.length:Int)<(C2 n).length)=false:=D1K (by omega);obtain⟨s,hs⟩: ∃s,s=c+(C2 m)[L.length]:=⟨_,rfl⟩
    rw[←hs]at J;have w5:IntKind.u32.wrap (s:Int)=((s % 4294967296:Nat):Int):=by rw[A7D];omega
    have w6:(s:Int) / 4294967296=((s / 4294967296:Nat):Int):=by omega
    have e1:(Rw F4 (S4 L ((C2 m).length+1))).set L.length [.int .u32 ((s % 4294967296:Nat):Int)]=Rw F4 (S4 (L++[s % 4294967296]) ((C2 m).length+1)):=by rw[←j0 L _ _ (by omega)];exact Y7 _ _ _ _ rfl
    repeat' (first|with_reducible apply D1H|simp only[go_sem,seval,j,q,o,B3 _ _ i,C3 _ _ i,O,J,w5,w6,e1]|simp(disch:=omega) only[A4,B3,J8]|omega)
    refine C4 (L++[s % 4294967296],s / 4294967296) ⟨by simp only[D1N,D1P];omega,i8 A (by omega),by simp only[];omega,?_⟩ (by simp only[D1N,D1P];omega) (by(try simp only[go_sem,seval,D1N,D1P])<;>(try simp(disch:=omega) [A4])) (D2i _);simp only[D1N,D1P];rw[D1W (l:=C2 n) (by omega)]at hv;rw[A1S,G9 _ _ i,D1W (l:=C2 n) (by omega),hs,Nat.mul_add];omega
  ·have j:decide ((L.length:Int)<(C2 m).length)=false:=D1K (by omega);have r:L.length=(C2 m).length:=by omega
   have w5:IntKind.u32.wrap (c:Int)=((c:Nat):Int):=B9v (by omega) (by omega);have e1:(Rw F4 (S4 L ((C2 m).length+1))).set (C2 m).length [.int .u32 ((c:Nat):Int)]=Rw F4 (L++[c]):=by
    rw[←r,←A4W (L++[c]) (L.length+1) (by simp),←j0 L _ _ (by omega)];exact Y7 _ _ _ _ rfl
   have z:F2 (L++[c])=m+n:=by
    rw[w9,hv,D1W (by omega),D1W (by omega),K9,K9]
   repeat' (first|with_reducible apply D1H|simp only[go_sem,seval,j,o,w5,e1]|simp(disch:=omega) only[A4,B3,J8]|omega)
   refine A4Z (L++[c]) M _ _ (by simp[r]) (by simp;omega) (A3 _ _) ?_;repeat' simp only[go_sem,seval]
   refine A15 (l:=L++[c]) (i8 A (show c<4294967296 by omega)) (by simp[r]) (A3 _ _) ?_;rw[z,E9 I];exact D2m h
theorem B6k{Q}(m n:Nat)(V:n≤m)(hm:(C2 m).length≤100000)(H:Heap)(h:Q (X6 (m-n)) H):D7 284 [X6 m,X6 n] H Q:=by
 refine A9 [] A6 Tryz.func284 rfl ?_;simp only[go_sem,seval,Tryz.results284];have W:(C2 n).length≤(C2 m).length:=by
  by_cases g:(C2 m).length<(C2 n).length
  ·have:=A0V g;omega
  ·omega
 repeat' (first|with_reducible apply D1H|intro r|omega)
 rename_i M;have G:=r;clear r;have u:List.replicate (C2 m).length [D.int .u32 0]=Rw F4 (S4 [] (C2 m).length):=by rw[A6V];exact A6L _ _ _ rfl
 rw[u];refine C8 [0,1,5,12] (fun(p:List Nat×Int)=>[(13,.int .i64 p.1.length),(6,.int .i64 p.2)]) (fun(p:List Nat×Int)=>H.set M (.vec 1 (Rw F4 (S4 p.1 (C2 m).length)))) (fun(p:List Nat×Int)=>p.1.length≤(C2 m).length∧Dig p.1∧(-1≤p.2∧p.2≤0)∧(F2 p.1:Int)+(4294967296:Int) ^ p.1.length*p.2=F2 ((C2 m).take p.1.length)-F2 ((C2 n).take p.1.length)) (fun(p:List Nat×Int)=>(C2 m).length-p.1.length) (([],0)) (⟨D1c _,by simp[Dig],by simp,by simp[F2]⟩) (by(try simp only[go_sem,seval])<;>(try simp(disch:=omega) [A4])) (by first|exact D2i _|exact A0 (by assumption)|exact B9 (by assumption)|simp only[Heap.Le,Heap.set,Heap.del]at* <;>grind) ?_;rintro Ec rfl ⟨L,c⟩ ⟨X,x,hc,hv⟩;simp only at X x hc hv;have y:=A6U L (C2 m).length (by omega);by_cases i:L.length<(C2 m).length
 ·have j:decide ((L.length:Int)<(C2 m).length)=true:=D1J (by omega);have x1:=J8 (P6 m) i;have O:IntKind.i64.wrap (((C2 m)[L.length]:Nat):Int)=(((C2 m)[L.length]:Nat):Int):=A4 (by omega) (by omega);have I:IntKind.i64.wrap (c+((C2 m)[L.length]:Nat))=c+((C2 m)[L.length]:Nat):=A4 (by omega) (by omega);have T:(F2 ((C2 m).take (L.length+1)):Int)=F2 ((C2 m).take L.length)+(4294967296:Int) ^ L.length*((C2 m)[L.length]:Nat):=by
   rw[G9 _ _ i,Int.natCast_add,Int.natCast_mul,Int.natCast_pow];rfl
  by_cases A:L.length<(C2 n).length
  ·have o:decide ((L.length:Int)<(C2 n).length)=true:=D1J (by omega);have y1:=J8 (P6 n) A;have Y:IntKind.i64.wrap (((C2 n)[L.length]:Nat):Int)=(((C2 n)[L.length]:Nat):Int):=A4 (by omega) (by omega);have ty:(F2 ((C2 n).take (L.length+1)):Int)=F2 ((C2 n).take L.length)+(4294967296:Int) ^ L.length*((C2 n)[L.length]:Nat):=by
    rw[G9 _ _ A,Int.natCast_add,Int.natCast_mul,Int.natCast_pow];rfl
   obtain⟨s,hs⟩: ∃s,s=c+((C2 m)[L.length]:Nat)-((C2 n)[L.length]:Nat):=⟨_,rfl⟩
   have w4:IntKind.i64.wrap (c+((C2 m)[L.length]:Nat)-((C2 n)[L.length]:Nat))=s:=by rw[A4 (by omega) (by omega)];omega
   have w5:IntKind.u32.wrap s=(((s % 4294967296).toNat:Nat):Int):=by rw[A7D];omega
   have e1:(Rw F4 (S4 L (C2 m).length)).set L.length [.int .u32 (((s % 4294967296).toNat:Nat):Int)]=Rw F4 (S4 (L++[(s % 4294967296).toNat]) (C2 m).length):=by rw[←j0 L _ _ (by omega)];exact Y7 _ _ _ _ rfl
   repeat' (first|with_reducible apply D1H|simp only[go_sem,seval,j,o,y,B3 _ _ i,C3 _ _ i,B3 _ _ A,C3 _ _ A,O,I,Y,w4,w5,e1]|simp(disch:=omega) only[A4,B3,J8]|omega)
   refine C4 (L++[(s % 4294967296).toNat],s / 4294967296) ⟨by simp only[D1N,D1P];omega,i8 x (by omega),by simp only[];omega,?_⟩ (by simp only[D1N,D1P];omega) (by(try simp only[go_sem,seval,D1N,D1P])<;>(try simp(disch:=omega) [A4])) (D2i _);simp only[D1N,D1P];have:=A45 L s;rw[T,ty];rw[hs]at this⊢;rw[Int.mul_sub,Int.mul_add]at this;omega
  ·have o:decide ((L.length:Int)<(C2 n).length)=false:=D1K (by omega);obtain⟨s,hs⟩: ∃s,s=c+((C2 m)[L.length]:Nat):=⟨_,rfl⟩
   rw[←hs]at I;have w5:IntKind.u32.wrap s=(((s % 4294967296).toNat:Nat):Int):=by rw[A7D];omega
   have e1:(Rw F4 (S4 L (C2 m).length)).set L.length [.int .u32 (((s % 4294967296).toNat:Nat):Int)]=Rw F4 (S4 (L++[(s % 4294967296).toNat]) (C2 m).length):=by rw[←j0 L _ _ (by omega)];exact Y7 _ _ _ _ rfl
   repeat' (first|with_reducible apply D1H|simp only[go_sem,seval,j,o,y,B3 _ _ i,C3 _ _ i,O,←hs,I,w5,e1]|simp(disch:=omega) only[A4,B3,J8]|omega)
   refine C4 (L++[(s % 4294967296).toNat],s / 4294967296) ⟨by simp only[D1N,D1P];omega,i8 x (by omega),by simp only[];omega,?_⟩ (by simp only[D1N,D1P];omega) (by(try simp only[go_sem,seval,D1N,D1P])<;>(try simp(disch:=omega) [A4])) (D2i _);simp only[D1N,D1P];have:=A45 L s;rw[D1W (l:=C2 n) (by omega)]at hv;rw[T,D1W (l:=C2 n) (by omega)];rw[hs]at this⊢;rw[Int.mul_add]at this;omega
 ·have j:decide ((L.length:Int)<(C2 m).length)=false:=D1K (by omega);have q:L.length=(C2 m).length:=by omega
  have e1:Rw F4 (S4 L (C2 m).length)=Rw F4 L:=by rw[A4W _ _ q]
  rw[D1W (by omega),D1W (by omega),K9,K9]at hv;have U:=A8x x;have z:F2 L=m-n:=by
   have hp:((4294967296 ^ L.length:Nat):Int)=(4294967296:Int) ^ L.length:=Int.natCast_pow _ _;have J:c=0∨c= -1:=by omega
   rcases J with rfl|rfl
   ·omega
   ·rw[←hp]at hv;omega
  repeat' simp only[go_sem,seval,j,e1]
  refine A4Z L M _ _ (by simp[q]) (by omega) (A3 _ _) ?_;repeat' simp only[go_sem,seval]
  refine A15 (l:=L) x (by simp[q]) (A3 _ _) ?_;rw[z,E9 G];exact D2m h
set_option maxHeartbeats 1000000 in
theorem C3r{Q}(m n:Nat)(hm:(C2 m).length≤100000)(hn:(C2 n).length≤100000)(H:Heap)(h:Q (X6 (m*n)) H):D7 280 [X6 m,X6 n] H Q:=by
 refine A9 [] A6 Tryz.func280 rfl ?_;simp only[go_sem,seval,Tryz.results280];repeat' (first|with_reducible apply D1H|simp(disch:=omega) only[A4,B3,J8]|intro J|omega)
 rename_i O;have T:=J;clear J;have M:List.replicate (((C2 m).length:Int)+(C2 n).length).toNat [D.int .u32 0]=Rw F4 (List.replicate ((C2 m).length+(C2 n).length) 0):=by rw[show (((C2 m).length:Int)+(C2 n).length).toNat=(C2 m).length+(C2 n).length by omega];exact A6L _ _ _ rfl
 rw[M];refine C8 [1,5,17,18] (fun(p:Nat×List Nat)=>[(19,.int .i64 p.1)]) (fun(p:Nat×List Nat)=>H.set O (.vec 1 (Rw F4 p.2))) (fun(p:Nat×List Nat)=>p.1≤(C2 m).length∧p.2.length=(C2 m).length+(C2 n).length∧Dig p.2∧F2 p.2=F2 ((C2 m).take p.1)*n∧∀(k:Nat) (hk:k<p.2.length),p.1+(C2 n).length≤k→p.2[k]=0) (fun(p:Nat×List Nat)=>(C2 m).length-p.1) ((0,List.replicate ((C2 m).length+(C2 n).length) 0)) (⟨D1c _,by simp,B4a _,by simp[B2A,F2],fun k hk _=>by simp⟩) (by(try simp only[go_sem,seval])<;>(try simp(disch:=omega) [A4])) (by first|exact D2i _|exact A0 (by assumption)|exact B9 (by assumption)|simp only[Heap.Le,Heap.set,Heap.del]at* <;>grind) ?_;rintro Ec rfl ⟨i,out⟩ ⟨X,x,r,o,u⟩;simp only at X x r o u;by_cases y:i<(C2 m).length
 ·have A:decide ((i:Int)<(C2 m).length)=true:=D1J (by omega);have Y:=J8 (P6 m) y;repeat' (first|with_reducible apply D1H|simp only[go_sem,seval,A,B3 _ _ y,C3 _ _ y]|omega)
  refine C8 [1,5,6,7,17,18,19,24,25] (fun(q:Nat×List Nat×Nat)=>[(26,.int .i64 q.1),(8,.int .u64 q.2.2)]) (fun(q:Nat×List Nat×Nat)=>H.set O (.vec 1 (Rw F4 q.2.1))) (fun(q:Nat×List Nat×Nat)=>q.1≤(C2 n).length∧q.2.1.length=(C2 m).length+(C2 n).length∧Dig q.2.1∧q.2.2<4294967296∧F2 q.2.1+4294967296 ^ (i+q.1)*q.2.2=F2 ((C2 m).take i)*n+4294967296 ^ i*(C2 m)[i]*F2 ((C2 n).take q.1)∧∀(k:Nat) (hk:k<q.2.1.length),i+(C2 n).length≤k→q.2.1[k]=0) (fun(q:Nat×List Nat×Nat)=>(C2 n).length-q.1) ((0,out,0)) (⟨D1c _,x,r,by simp,by simp[o,F2],u⟩) (by(try simp only[go_sem,seval])<;>(try simp(disch:=omega) [A4])) (by first|exact D2i _|exact A0 (by assumption)|exact B9 (by assumption)|simp only[Heap.Le,Heap.set,Heap.del]at* <;>grind) ?_;clear x r o u;rintro a0 rfl ⟨j,o2,c⟩ ⟨hj,x,r,hc,o,u⟩;simp only at hj x r hc o u;by_cases z:j<(C2 n).length
  ·have G:decide ((j:Int)<(C2 n).length)=true:=D1J (by omega);have y1:=J8 (P6 n) z;have hp:i+j<o2.length:=by omega
   have o1:=J8 r hp;obtain⟨s,hs⟩: ∃s,s=c+((C2 m)[i]*(C2 n)[j]+o2[i+j]):=⟨_,rfl⟩
   obtain⟨m1,m2⟩:=C3k Y y1 o1 hc;have w1:IntKind.u64.wrap (((C2 m)[i]:Nat):Int)=(((C2 m)[i]:Nat):Int):=A0P (by omega) (by omega);have w2:IntKind.u64.wrap (((C2 n)[j]:Nat):Int)=(((C2 n)[j]:Nat):Int):=A0P (by omega) (by omega);have w3:IntKind.u64.wrap ((o2[i+j]:Nat):Int)=((o2[i+j]:Nat):Int):=A0P (by omega) (by omega);have w4:IntKind.u64.wrap ((((C2 m)[i]:Nat):Int)*(((C2 n)[j]:Nat):Int))=(((C2 m)[i]*(C2 n)[j]:Nat):Int):=by rw[←Int.natCast_mul];exact A0P (by omega) (by omega)
   have w5:IntKind.u64.wrap ((((C2 m)[i]*(C2 n)[j]:Nat):Int)+((o2[i+j]:Nat):Int))=(((C2 m)[i]*(C2 n)[j]+o2[i+j]:Nat):Int):=by rw[←Int.natCast_add];exact A0P (by omega) (by omega)
   have w6:IntKind.u64.wrap ((c:Int)+(((C2 m)[i]*(C2 n)[j]+o2[i+j]:Nat):Int))=(s:Int):=by rw[←Int.natCast_add,←hs];exact A0P (by omega) (by omega)
   have U:IntKind.u32.wrap (s:Int)=((s % 4294967296:Nat):Int):=by rw[A7D];omega
   have w8:(s:Int) / 4294967296=((s / 4294967296:Nat):Int):=by omega
   have V:(i:Int)+(j:Int)=((i+j:Nat):Int):=by omega
   have e1:(Rw F4 o2).set (i+j) [.int .u32 ((s % 4294967296:Nat):Int)]=Rw F4 (o2.set (i+j) (s % 4294967296)):=Y7 _ _ _ _ rfl;repeat' (first|with_reducible apply D1H|simp only[go_sem,seval,G,V,B3 _ _ y,C3 _ _ y,B3 _ _ z,C3 _ _ z,B3 _ _ hp,C3 _ _ hp,w1,w2,w3,w4,w5,w6,U,w8,e1]|simp(disch:=omega) only[A4,B3,J8]|omega)
   refine C4 (j+1,o2.set (i+j) (s % 4294967296),s / 4294967296) ⟨by simp only[];omega,by simp only[D2E];omega,B3Q r (by omega),by simp only[];omega,?_,fun k hk I=>?_⟩ (by simp only[];omega) (by(try simp only[go_sem,seval])<;>(try simp(disch:=omega) [A4])) (D2i _)
   ·simp only[];rw[G9 _ _ z,←Nat.add_assoc];exact B6e o2 (i+j) i j s _ _ c _ _ hp rfl o hs
   ·simp only[]at hk⊢;rw[List.getElem_set_ne (by omega)];exact u k (by simpa using hk) I
  ·have G:decide ((j:Int)<(C2 n).length)=false:=D1K (by omega);have W:j=(C2 n).length:=by omega
   subst W;have hp:i+(C2 n).length<o2.length:=by omega
   have V:(i:Int)+((C2 n).length:Int)=((i+(C2 n).length:Nat):Int):=by omega
   have U:IntKind.u32.wrap (c:Int)=(c:Int):=B9v (by omega) (by omega);have e1:(Rw F4 o2).set (i+(C2 n).length) [.int .u32 (c:Int)]=Rw F4 (o2.set (i+(C2 n).length) c):=Y7 _ _ _ _ rfl;repeat' (first|with_reducible apply D1H|simp only[go_sem,seval,G,V,B3 _ _ hp,C3 _ _ hp,U,e1]|simp(disch:=omega) only[A4,B3,J8]|omega)
   refine C4 (i+1,o2.set (i+(C2 n).length) c) ⟨by simp only[];omega,by simp only[D2E];omega,B3Q r hc,?_,fun k hk I=>?_⟩ (by simp only[];omega) (by(try simp only[go_sem,seval])<;>(try simp(disch:=omega) [A4])) (D2i _)
   ·simp only[];rw[D1W (l:=C2 n) (by omega),K9]at o;rw[B9t o2 _ c _ _ hp (u _ hp (by omega)) o,G9 _ _ y,Nat.add_mul]
   ·simp only[]at hk I⊢;rw[List.getElem_set_ne (by omega)];exact u k (by simpa using hk) (by omega)
 ·have A:decide ((i:Int)<(C2 m).length)=false:=D1K (by omega);rw[D1W (by omega),K9]at o;repeat' simp only[go_sem,seval,A]
  refine A4Z out O _ _ (by rw[x];omega) (by omega) (A3 _ _) ?_;repeat' simp only[go_sem,seval]
  refine A15 (l:=out) r (by rw[x];omega) (A3 _ _) ?_;rw[o,E9 T];exact D2m h
theorem C9g{q:Nat}(h:q<18446744073709551616):IntKind.u64.wrap (q:Int)=q:=A0P (by omega) (by omega)
theorem C9h{q:Nat}(h:q<4294967296):IntKind.u32.wrap (q:Int)=q:=B9v (by omega) (by omega)
theorem B6l{Q}(m n:Nat)(hm:(C2 m).length≤100000)(h0:n≠0)(hn:n<4294967296)(H:Heap)(h:Q (.tuple [X6 (m / n),X6 (m % n)]) H):D7 278 [X6 m,X6 n] H Q:=by
 refine A9 [(26,.par)] A6 Tryz.func278 rfl ?_;simp only[go_sem,seval,Tryz.results278];have y:C2 n= [n]:=A3f hn h0;have a0:(C2 n).length=1:=by rw[y];rfl
 have z:0<(C2 n).length:=by omega
 have hg:(C2 n)[0]=n:=by simp[y]
 by_cases o:m<n
 ·repeat' (first|with_reducible apply D1H|simp only[go_sem,seval]|simp(disch:=omega) only[A4,B3,J8]|intro q|omega)
  refine B6i m n (by omega) (by omega) _ fun c hc=>?_;have u:decide (c<0)=true:=D1J (hc.1.2 o);repeat' simp only[go_sem,seval,u]
  rw[Nat.div_eq_of_lt o,D2I o]at h;refine Fin.nilsl 1 _ ?_;exact D2m (by rw[show X6 0= .sl 1 []by rw[C3n,J6];rfl]at h;exact h)
 ·repeat' (first|with_reducible apply D1H|simp only[go_sem,seval]|simp(disch:=omega) only[A4,B3,J8]|intro q|omega)
  refine B6i m n (by omega) (by omega) _ fun c hc=>?_;have u:decide (c<0)=false:=D1K (fun g=>o (hc.1.1 g));have A:((C2 n).length:Int)=1:=by omega
  repeat' (first|with_reducible apply D1H|simp only[go_sem,seval,u,A]|simp(disch:=omega) only[A4,B3,J8]|intro q|omega)
  rename_i M;have O:=q;clear q;have G:List.replicate (C2 m).length [D.int .u32 0]=Rw F4 (A3g [] (C2 m).length):=by rw[B6c];exact A6L _ _ _ rfl
  rw[G];refine C8 [0,1,6] (fun(p:Nat×List Nat×Nat)=>[(8,.int .i64 ((p.1:Int)-1)),(7,.int .u64 p.2.2)]) (fun(p:Nat×List Nat×Nat)=>H.set M (.vec 1 (Rw F4 (A3g p.2.1 (C2 m).length)))) (fun(p:Nat×List Nat×Nat)=>p.2.1.length+p.1=(C2 m).length∧Dig p.2.1∧p.2.2<n∧F2 p.2.1*n+p.2.2=F2 ((C2 m).drop p.1)) (fun(p:Nat×List Nat×Nat)=>p.1) (((C2 m).length,[],0)) (⟨by simp,by simp[Dig],by simp only[];omega,by simp[F2]⟩) (by(try simp only[go_sem,seval])<;>(try simp(disch:=omega) [A4])) (by first|exact D2i _|exact A0 (by assumption)|exact B9 (by assumption)|simp only[Heap.Le,Heap.set,Heap.del]at* <;>grind) ?_;rintro Ec rfl ⟨k,L,r⟩ ⟨hk,T,hr,hv⟩;simp only at hk T hr hv;have U:=B6a L (C2 m).length (by omega);by_cases a6:0<k
  ·obtain⟨j,rfl⟩: ∃j,k=j+1:=⟨k-1,by omega⟩
   have J:j<(C2 m).length:=by omega
   have ek:(((j+1:Nat):Int)-1)=(j:Int):=by omega
   have V:decide ((0:Int)≤(j:Int))=true:=D1J (by omega);have x1:=J8 (P6 m) J;have w1:IntKind.u64.wrap (((C2 m)[j]:Nat):Int)=(((C2 m)[j]:Nat):Int):=A0P (by omega) (by omega);have w2:IntKind.u64.wrap ((r:Int)*4294967296)=(r:Int)*4294967296:=A0P (by omega) (by omega);have Y:=C3p (r:=r) (x:=(C2 m)[j]) (by omega) x1;obtain⟨s,hs⟩: ∃s,s=r*4294967296+(C2 m)[j]:=⟨_,rfl⟩
   rw[←hs]at Y;have I:s / n<4294967296:=by
    rw[Nat.div_lt_iff_lt_mul (by omega)];have:=Nat.mul_le_mul_left 4294967296 (show r+1≤n by omega);omega
   have w4:IntKind.u64.wrap ((n:Nat):Int)=(n:Int):=A0P (by omega) (by omega);have W:s<18446744073709551616:=by omega
   have w5:IntKind.u64.wrap ((s:Int).tdiv (n:Int))=((s / n:Nat):Int):=by rw[←Int.ofNat_tdiv];exact C9g (Nat.lt_of_le_of_lt (Nat.div_le_self s n) W)
   have w6:IntKind.u32.wrap ((s / n:Nat):Int)=((s / n:Nat):Int):=C9h I;have w7:(s:Int).tmod (n:Int)=((s % n:Nat):Int):=(Int.ofNat_tmod s n).symm;have nz: ¬((n:Int)=0):=by omega
   have e1:(Rw F4 (A3g L (C2 m).length)).set j [.int .u32 ((s / n:Nat):Int)]=Rw F4 (A3g ((s / n)::L) (C2 m).length):=by rw[←B6b L _ _ j (by omega)];exact Y7 _ _ _ _ rfl
   repeat' (first|with_reducible apply D1H|simp only[go_sem,seval,ek,V,U,B3 _ _ J,C3 _ _ J,B3 _ _ z,C3 _ _ z,hg,w1,w2,Y,w4,w5,w6,w7,nz,e1]|simp(disch:=omega) only[A4,B3,J8]|omega)
   refine C4 (j,s / n::L,s % n) ⟨by simp only[D1M];omega,fun x hx=>?_,Nat.mod_lt _ (by omega),?_⟩ (by simp only[];omega) (by simp only[go_sem,seval]) (D2i _)
   ·rcases D1j.1 hx with rfl|g
    ·exact I
    ·exact T x g
   ·simp only[F2];rw[A2V _ _ J,hs];exact B6d (by omega) hv
  ·have e:k=0:=by omega
   subst e;have V:decide ((0:Int)≤(((0:Nat):Int)-1))=false:=by decide
   rw[List.drop_zero,K9]at hv;obtain⟨q1,q2⟩:=B9s hr hv;have e1:A3g L (C2 m).length=L:=B4b _ _ (by omega);repeat' simp only[go_sem,seval,V,e1]
   refine A4Z L M _ _ (by omega) (by omega) (A3 _ _) ?_;repeat' simp only[go_sem,seval]
   refine C3q r (by omega) _ ?_;repeat' simp only[go_sem,seval]
   refine Fin.freeze (b:=M) (A3 _ _) (.tuple _ [.sl 1 (((Rw F4 L).drop 0).take (A0I L (C2 m).length)),X6 r] rfl fun i d d' X g2=>?_) ?_
   ·match i with
    |0=>cases X;cases g2;exact .vec 0 _ (by rw[Nat.zero_add,D6];have:=B0V L (C2 m).length;omega)
    |1=>cases X;cases g2;exact .same _
    |i+2=>cases X
   ·have e2:L.take (A0I L (C2 m).length)=C2 (F2 L):=by have:=B0W T;rwa [show L.length=(C2 m).length by omega]at this
    rw[List.drop_zero,A8p,e2,←q1,←q2,E9 O];exact D2m h
theorem C3s{Q}(m n:Nat)(hm:(C2 m).length≤100000)(hn:n<4294967296)(H:Heap)(h:Q (X6 (Nat.gcd m n)) H):D7 277 [X6 m,X6 n] H Q:=by
 refine A9 [] A6 Tryz.func277 rfl ?_;simp only[go_sem,seval,Tryz.results277];repeat' (first|with_reducible apply D1H|simp only[go_sem,seval]|intro r|omega)
 refine C8 [] (fun(p:Nat×Nat)=>[(0,X6 p.1),(1,X6 p.2)]) (fun(p:Nat×Nat)=>H) (fun(p:Nat×Nat)=>(C2 p.1).length≤100000∧p.2<4294967296∧Nat.gcd p.1 p.2=Nat.gcd m n) (fun(p:Nat×Nat)=>p.2) ((m,n)) (⟨hm,hn,rfl⟩) (by simp only[go_sem,seval]) (by first|exact D2i _|exact A0 (by assumption)|exact B9 (by assumption)|simp only[Heap.Le,Heap.set,Heap.del]at* <;>grind) ?_;rintro u rfl ⟨a,b⟩ ⟨q,hb,o⟩;simp only at q hb o;by_cases i:b=0
 ·subst i;have hl:(C2 0).length=0:=by rw[J6];rfl
  have hd:decide ((0:Int)<((C2 0).length:Int))=false:=by rw[hl];rfl
  repeat' simp only[go_sem,seval,hd]
  rw[Nat.gcd_zero_right]at o;rw[←o]at h;exact D2m h
 ·have hl:(C2 b).length≠0:=fun e=>i ((I8 b).1 e);have hd:decide ((0:Int)<((C2 b).length:Int))=true:=D1J (by omega);repeat' simp only[go_sem,seval,hd]
  refine B6l a b q i hb _ ?_;repeat' simp only[go_sem,seval]
  have j:=Nat.mod_lt a (Nat.pos_of_ne_zero i);exact C4 (b,a % b) ⟨by simp only[];exact D2N (B0X b 1 (by simpa using hb)) (by decide),by simp only[];omega,by simp only[];rw[←o,Nat.gcd_comm a b,Nat.gcd_rec b a,Nat.gcd_comm]⟩ (by simp only[];exact j) (by simp only[go_sem,seval]) (D2i _)
end Go.Proofs.YtibphjonmikciaaGreatDoor
namespace Go.Lin
open Go Go.Av
abbrev Sz(n:Int):Prop:=(C2 n.natAbs).length≤100000
theorem B0g{n:Int}{k:Nat}(h:n.natAbs<4294967296 ^ k)(hk:k≤100000):Sz n:=D2N (B0X _ k h) hk
theorem H6{n:Int}(h:n.natAbs<340282366920938463463374607431768211456):Sz n:=B0g (k:=4) (by simpa using h) (by decide)
theorem A85(n:Int):decide ((0:Int)<((C2 n.natAbs).length:Int))=decide (n≠0):=by
 apply D1u.2;have:=I8 n.natAbs;omega
theorem A6Y(k:Nat):C5 (k:Int)= [.bool false,.sl 1 (Rw F4 (C2 k))]:=by
 unfold C5;rw[D1K (by omega),Int.natAbs_natCast]
theorem W6(n:Int)(k:Nat)(b:Bool)(h1:n.natAbs=k)(h:b=decide (n<0)): [D.bool b,.sl 1 (Rw F4 (C2 k))]=C5 n:=by subst h1;subst h;rfl
theorem A7p(n:Int)(k:Nat)(h:n=(k:Int)): [D.bool false,.sl 1 (Rw F4 (C2 k))]=C5 n:=by subst h;exact(A6Y k).symm
theorem A7q(n:Int)(k:Nat)(h:n= -(k:Int)): [D.bool (decide (-(k:Int)<0)),.sl 1 (Rw F4 (C2 k))]=C5 n:=by subst h;exact W6 _ k _ (by omega) rfl
theorem B6m{a b:Int}(h:decide (a<0)=decide (b<0)):decide (a*b<0)=false:=by
 apply D1K;have h:=D1u.1 h;by_cases i:a<0
 ·have:=Int.mul_pos_of_neg_of_neg i (h.1 i);omega
 ·have:=Int.mul_nonneg (show 0≤a by omega) (show 0≤b by have:=mt h.2 i;omega);omega
theorem B6n{a b:Int}(h: ¬decide (a<0)=decide (b<0)):decide ((0:Int)<((C2 (a.natAbs*b.natAbs)).length:Int))=decide (a*b<0):=by
 rw[←Int.natAbs_mul,A85];apply D1u.2;constructor
 ·intro g;have a1:a≠0:=by rintro rfl;exact g (Int.zero_mul _)
  have m:b≠0:=by rintro rfl;exact g (Int.mul_zero _)
  by_cases j:a<0
  ·have i: ¬b<0:=fun i=>h (by rw[D1J j,D1J i]);exact Int.mul_neg_of_neg_of_pos j (by omega)
  ·have i:b<0:=by
    by_cases i:b<0
    ·exact i
    ·exact absurd (by rw[D1K j,D1K i]) h
   exact Int.mul_neg_of_pos_of_neg (by omega) i
 ·omega
theorem B0h(a b:Int)(h:b≠0):a.fdiv b=(if b<0 then-a else a) / (b.natAbs:Int):=by
 by_cases hb:b<0
 ·rw[if_pos hb,←Int.neg_fdiv_neg,Int.fdiv_eq_ediv_of_nonneg _ (by omega)]
  congr 1;omega
 ·rw[if_neg hb,Int.fdiv_eq_ediv_of_nonneg _ (by omega)]
  congr 1;omega
theorem A2X(a b:Int)(i:b≠0)(h:decide (a<0)=decide (b<0)∨a=0):a.fdiv b=((a.natAbs / b.natAbs:Nat):Int):=by
 rw[B0h a b i,Int.natCast_ediv]
 congr 1
 rcases h with h|h
 ·have h:=D1u.1 h;split<;>omega
 ·subst h;split<;>simp
theorem B3R{a b q r:Int}(hb:0<b)(h:r+b*q=a)(h1:0≤r)(i:r<b):a / b=q:=((Int.ediv_emod_unique hb).2 ⟨h,h1,i⟩).1
theorem B3S(k:Nat):decide ((0:Int)<((C2 k).length:Int))=decide (-(k:Int)<0):=by
 apply D1u.2;have:=I8 k;omega
theorem A4a(a b:Int)(m:b≠0)(o:a≠0)(h: ¬decide (a<0)=decide (b<0)):a.fdiv b=if a.natAbs % b.natAbs=0 then-((a.natAbs / b.natAbs:Nat):Int)else-((a.natAbs / b.natAbs+1:Nat):Int):=by
 have hs:(if b<0 then-a else a)= -(a.natAbs:Int):=by
  have h: ¬(a<0↔b<0):=fun g=>h (D1u.2 g);split
  ·rename_i hb;have: ¬a<0:=fun g=>h ⟨fun _=>hb,fun _=>g⟩;omega
  ·rename_i hb;by_cases g:a<0
   ·omega
   ·exact absurd ⟨fun q=>absurd q g,fun q=>absurd q hb⟩ h
 rw[B0h a b m,hs];have hb:(0:Int)<(b.natAbs:Int):=by omega
 have e:=Nat.div_add_mod a.natAbs b.natAbs;have i:(a.natAbs:Int)=(b.natAbs:Int)*((a.natAbs / b.natAbs:Nat):Int)+((a.natAbs % b.natAbs:Nat):Int):=by rw[←Int.natCast_mul,←Int.natCast_add,e]
 have hm:=Nat.mod_lt a.natAbs (show 0<b.natAbs by omega);split
 ·rename_i j;refine(B3R hb (r:=0) ?_ (by omega) hb).symm ▸ rfl;rw[j]at i;rw[i,Int.mul_neg];simp
 ·rename_i j;refine(B3R hb (r:=(b.natAbs:Int)-((a.natAbs % b.natAbs:Nat):Int)) ?_ (by omega) (by omega)).symm ▸ rfl;rw[i,Int.natCast_add,Int.mul_neg,Int.mul_add];omega
theorem A86:NilR (.agg [.bool false,.nilsl]) (.agg (C5 0)):=by
 have e:C5 0= [.bool false,.sl 1 []]:=by
  unfold C5;rw[show (0:Int).natAbs=0 from rfl,J6];rfl
 rw[e];refine .agg _ _ rfl fun i d d' h1 h=>?_
 match i with
 |0=>cases h1;cases h;exact .same _
 |1=>cases h1;cases h;exact .nil _
 |i+2=>cases h1
end Go.Lin
namespace Go.Proofs.YtibphjonmikciaaGreatDoor
open Go Go.Av Go.Lin
attribute [local irreducible] ACalls S9
theorem L3{Q}(n:Int)(H:Heap)(h:Q (.int .i64 n.sign) H):D7 245 [.agg (C5 n)] H Q:=by
 refine A9 [] A6 Tryz.func245 rfl ?_;simp only[go_sem,seval,Tryz.results245];intro m i;have e1:=A3 (H:=H) m (.box (C5 n));simp only[C3o]at e1;by_cases o:n=0
 ·have j:(C2 n.natAbs).length=0:=(I8 _).2 (by omega);repeat' (first|with_reducible apply D1H|simp only[go_sem,seval,e1,j]|intro p|omega)
  rw[o]at h;exact D2j (A0 i) h
 ·have j: ¬(((C2 n.natAbs).length:Int)=0):=by have:=I8 n.natAbs;omega
  by_cases hn:n<0
  ·repeat' (first|with_reducible apply D1H|simp only[go_sem,seval,e1,j,hn,decide_true,decide_false])
   rw[Int.sign_eq_neg_one_of_neg hn]at h;exact D2j (A0 i) h
  ·repeat' (first|with_reducible apply D1H|simp only[go_sem,seval,e1,j,hn,decide_true,decide_false])
   rw[Int.sign_eq_one_of_pos (by omega)]at h;exact D2j (A0 i) h
theorem B6o{Q}(n:Int)(H:Heap)(h:Q (.agg (C5 n.natAbs)) H):D7 254 [.agg (C5 n)] H Q:=by
 refine A9 [] A6 Tryz.func254 rfl ?_;simp only[go_sem,seval,Tryz.results254];rw[A6Y]at h;repeat' (first|simp only[go_sem,seval]|simp(disch:=first|omega|grind) only[A8]|(intro i;try simp only[A5]at i))
 exact D2j (by simp only[F0,D3,D4]at* <;>grind) h
theorem A4b{Q}(n:Int)(H:Heap)(h:Q (.agg (C5 (-n))) H):D7 259 [.agg (C5 n)] H Q:=by
 refine A9 [] A6 Tryz.func259 rfl ?_;simp only[go_sem,seval,Tryz.results259];by_cases hn:n<0
 ·rw[←W6 (-n) n.natAbs false (by omega) (by rw[D1K (by omega)])]at h;repeat' (first|simp only[go_sem,seval,hn,decide_true]|simp(disch:=first|omega|grind) only[A8]|(intro i;try simp only[A5]at i))
  all_goals exact D2j (by simp only[F0,D3,D4]at* <;>grind) h
 ·by_cases m:n=0
  ·have j:((C2 n.natAbs).length:Int)=0:=by have:=I8 n.natAbs;omega
   rw[←W6 (-n) n.natAbs false (by omega) (by rw[D1K (by omega)])]at h;repeat' (first|simp only[go_sem,seval,hn,decide_false,j]|simp(disch:=first|omega|grind) only[A8]|(intro i;try simp only[A5]at i))
   all_goals exact D2j (by simp only[F0,D3,D4]at* <;>grind) h
  ·have j:(0:Int)<((C2 n.natAbs).length:Int):=by have:=I8 n.natAbs;omega
   rw[←W6 (-n) n.natAbs true (by omega) (by rw[D1J (by omega)])]at h;repeat' (first|simp only[go_sem,seval,hn,decide_false,j,decide_true]|simp(disch:=first|omega|grind) only[A8]|(intro i;try simp only[A5]at i))
   all_goals exact D2j (by simp only[F0,D3,D4]at* <;>grind) h
theorem B0i{Q}(n:Int)(H:Heap)(h:Q (.bool (decide (n.natAbs=1))) H):D7 246 [.agg (C5 n)] H Q:=by
 refine A9 [] A6 Tryz.func246 rfl ?_;simp only[go_sem,seval,Tryz.results246];by_cases hl:(C2 n.natAbs).length=1
 ·have i:((C2 n.natAbs).length:Int)=1:=by omega
  have j:0<(C2 n.natAbs).length:=by omega
  have hv:=K9 n.natAbs;obtain⟨d,hd⟩:=List.length_eq_one_iff.1 hl;have o:(C2 n.natAbs)[0]=d:=by simp[hd]
  rw[hd]at hv;simp only[F2,Nat.mul_zero,Nat.add_zero]at hv;have e:decide (n.natAbs=1)=decide ((d:Int)=1):=D1u.2 (by omega);rw[e]at h;repeat' (first|simp only[go_sem,seval,i,B3 _ _ j,C3 _ _ j,o]|intro m)
  all_goals (first|exact D2j (by simp only[F0,D3,D4]at* <;>grind) h|(refine D2j (H':=H) (by simp only[F0,D3,D4]at* <;>grind) ?_;simp_all))
 ·have i: ¬(((C2 n.natAbs).length:Int)=1):=by omega
  have e:decide (n.natAbs=1)=false:=D1K (fun g=>hl (by rw[g,A3f (by decide) (by decide)];rfl));rw[e]at h;repeat' (first|simp only[go_sem,seval,i,decide_false]|intro m)
  all_goals exact D2j (by simp only[F0,D3,D4]at* <;>grind) h
theorem S6{Q}(a b:Int)(m:Sz a)(hb:Sz b)(H:Heap)(h:Q (.agg (C5 (a*b))) H):D7 248 [.agg (C5 a),.agg (C5 b)] H Q:=by
 refine A9 [] A6 Tryz.func248 rfl ?_;simp only[go_sem,seval,Tryz.results248];have i:(a*b).natAbs=a.natAbs*b.natAbs:=Int.natAbs_mul a b;repeat' (first|with_reducible apply D1H|simp only[go_sem,seval]|simp(disch:=first|omega|grind) only[A8]|(intro j;try simp only[A5]at j)|with_reducible refine C3r _ _ m hb _ ?_)
 ·rw[W6 (a*b) _ _ i (B6n (by assumption))];exact D2j (by simp only[F0,D3,D4]at* <;>grind) h
 ·rw[W6 (a*b) _ _ i (B6m (by assumption)).symm];exact D2j (by simp only[F0,D3,D4]at* <;>grind) h
theorem A3l{Q}(a b:Int)(q:Sz a)(m:b≠0)(hb:b.natAbs<4294967296)(H:Heap)(h:Q (.agg (C5 (a.fdiv b))) H):D7 247 [.agg (C5 a),.agg (C5 b)] H Q:=by
 refine A9 [] A6 Tryz.func247 rfl ?_;simp only[go_sem,seval,Tryz.results247];repeat' (first|with_reducible apply D1H|simp only[go_sem,seval]|simp(disch:=first|omega|grind) only[A8,D0]|(intro o;try simp only[A5]at o)|with_reducible refine B6l _ _ q (by omega) hb _ ?_)
 ·have i:a=0:=by have:=I8 a.natAbs;omega
  rw[A7p (a.fdiv b) _ (A2X a b m (.inr i))];exact D2j (by simp only[F0,D3,D4]at* <;>grind) h
 ·have i:a≠0:=by have:=I8 a.natAbs;omega
  have hr: ¬a.natAbs % b.natAbs=0:=by have:=I8 (a.natAbs % b.natAbs);omega
  have j:=A4a a b m i (by assumption);rw[if_neg hr]at j;have h1:Rw F4 (C2 1)= [[D.int .u32 1]]:=by rw[A3f (by decide) (by decide)];rfl
  refine A0c (es:=Rw F4 (C2 1)) (by rw[h1];exact A3 _ _) (by rw[h1];rfl) ?_;have p:(C2 (a.natAbs / b.natAbs)).length≤100000:=D2N (B4Z (Nat.div_le_self _ _)) q;refine B6j _ 1 p (by rw[A3f (by decide) (by decide)];decide) _ ?_;repeat' (first|simp only[go_sem,seval]|simp(disch:=first|omega|grind) only[A8,D0])
  rw[B3S,A7q (a.fdiv b) _ j];exact D2j (by simp only[F0,D3,D4]at* <;>grind) h
 ·have i:a≠0:=by have:=I8 a.natAbs;omega
  have hr:a.natAbs % b.natAbs=0:=by have:=I8 (a.natAbs % b.natAbs);omega
  have j:=A4a a b m i (by assumption);rw[if_pos hr]at j;rw[B3S,A7q (a.fdiv b) _ j];exact D2j (by simp only[F0,D3,D4]at* <;>grind) h
 ·rw[A7p (a.fdiv b) _ (A2X a b m (.inl (by assumption)))];exact D2j (by simp only[F0,D3,D4]at* <;>grind) h
theorem A0X{Q}(a b:Int)(y:Sz a)(hb:Sz b)(H:Heap)(h:Q (.agg (C5 (a+b))) H):D7 255 [.agg (C5 a),.agg (C5 b)] H Q:=by
 refine A9 [(2,.par),(7,.par),(8,.par)] A6 Tryz.func255 rfl ?_;simp only[go_sem,seval,Tryz.results255];intro m A o p U j;simp only[A5]at p j;have r:m∈[m,o]:=by simp
 have u:o∈[m,o]:=by simp
 have G:=j.2.1.symm;have I:=j.1.symm;have J:=p.1.symm;by_cases hs:decide (a<0)=decide (b<0)
 ·have M:=D1u.1 hs;repeat' (first|simp only[go_sem,seval,hs,beq_self_eq_true]|simp(disch:=first|omega|grind) only[A8])
  refine F9 (fun i=>if i=6 then X6 (a.natAbs+b.natAbs)else .undef) [m,o] ?_;repeat' (first|with_reducible apply D1H|simp only[go_sem,seval,r,u]|simp(disch:=first|omega|grind) only[A8]|with_reducible refine R5 (fun H' Q hro hq=>B6j _ _ y hb H' hq) ?_)
  rw[W6 (a+b) _ _ (by omega) (by apply D1u.2;omega)];exact D2j (by simp only[F0,D3,D4]at* <;>grind) h
 ·have M: ¬(a<0↔b<0):=fun g=>hs (D1u.2 g);have x:(decide (a<0)==decide (b<0))=false:=by rw[beq_eq_false_iff_ne];exact hs
  repeat' (first|simp only[go_sem,seval,x]|simp(disch:=first|omega|grind) only[A8])
  refine B6i _ _ (by omega) (by omega) _ fun c hc=>?_;have c1:=hc.1;have O:=hc.2;by_cases q:c=0
  ·have T:a+b=0:=by have:=O.1 q;omega
   repeat' simp only[go_sem,seval,q]
   rw[T]at h;exact E5 A86 (D2j (by simp only[F0,D3,D4]at* <;>grind) h)
  ·by_cases z:0<c
   ·have hsz:b.natAbs≤a.natAbs:=by omega
    repeat' simp only[go_sem,seval,q,z,decide_true,decide_false]
    refine F9 (fun i=>if i=6 then X6 (a.natAbs-b.natAbs)else .undef) [m,o] ?_;repeat' (first|with_reducible apply D1H|simp only[go_sem,seval,r,u]|simp(disch:=first|omega|grind) only[A8]|with_reducible refine R5 (fun H' Q hro hq=>B6k _ _ hsz y H' hq) ?_)
    rw[W6 (a+b) _ _ (by omega) (by apply D1u.2;omega)];exact D2j (by simp only[F0,D3,D4]at* <;>grind) h
   ·have hsz:a.natAbs≤b.natAbs:=by omega
    repeat' simp only[go_sem,seval,q,z,decide_true,decide_false]
    refine F9 (fun i=>if i=6 then X6 (b.natAbs-a.natAbs)else .undef) [m,o] ?_;repeat' (first|with_reducible apply D1H|simp only[go_sem,seval,r,u]|simp(disch:=first|omega|grind) only[A8]|with_reducible refine R5 (fun H' Q hro hq=>B6k _ _ hsz hb H' hq) ?_)
    rw[W6 (a+b) _ _ (by omega) (by apply D1u.2;omega)];exact D2j (by simp only[F0,D3,D4]at* <;>grind) h
theorem A0K{Q}(a b:Int)(r:Sz a)(hb:Sz b)(H:Heap)(h:Q (.agg (C5 (a-b))) H):D7 249 [.agg (C5 a),.agg (C5 b)] H Q:=by
 refine A9 [(1,.par)] A6 Tryz.func249 rfl ?_;simp only[go_sem,seval,Tryz.results249];intro o u p m I j;simp only[A5]at m j;have x:o∈[o,p]:=by simp
 have y:p∈[o,p]:=by simp
 have z:=j.2.1.symm;have A:=j.1.symm;have G:=m.1.symm;have q:Sz (-b):=by unfold Sz;rw[Int.natAbs_neg];exact hb
 have e:a+ -b=a-b:=by omega
 rw[←e]at h;refine F9 (fun i=>if i=2 then .agg (C5 (-b))else if i=3 then .agg (C5 (a+ -b))else .undef) [o,p] ?_;repeat' (first|with_reducible apply D1H|simp only[go_sem,seval,x,y]|simp(disch:=first|omega|grind) only[A8]|with_reducible refine R5 (fun H' Q hro hq=>A4b b H' hq) ?_|with_reducible refine R5 (fun H' Q hro hq=>A0X a (-b) r q H' hq) ?_)
 exact D2j (by simp only[F0,D3,D4]at* <;>grind) h
theorem B3T{Q}(a b:Int)(j:Sz a)(hb:Sz b)(H:Heap)(h:Q (.bool (decide (a<b))) H):D7 262 [.agg (C5 a),.agg (C5 b)] H Q:=by
 refine A9 [] A6 Tryz.func262 rfl ?_;simp only[go_sem,seval,Tryz.results262];have e:decide (a<b)=decide ((a-b).sign<0):=by
  apply D1u.2;rw[Int.sign_neg_iff];omega
 rw[e]at h;repeat' (first|simp only[go_sem,seval]|simp(disch:=first|omega|grind) only[A8]|(intro i;try simp only[A5]at i)|with_reducible refine A0K a b j hb _ ?_|with_reducible refine L3 (a-b) _ ?_)
 exact D2j (by simp only[F0,D3,D4]at* <;>grind) h
theorem B6p{Q}(a b:Int)(j:Sz a)(hb:b.natAbs<4294967296)(H:Heap)(h:Q (.agg (C5 (Nat.gcd a.natAbs b.natAbs))) H):D7 244 [.agg (C5 a),.agg (C5 b)] H Q:=by
 refine A9 [] A6 Tryz.func244 rfl ?_;simp only[go_sem,seval,Tryz.results244];rw[A6Y]at h;repeat' (first|simp only[go_sem,seval]|simp(disch:=first|omega|grind) only[A8]|(intro i;try simp only[A5]at i)|with_reducible refine C3s _ _ j hb _ ?_)
 exact D2j (by simp only[F0,D3,D4]at* <;>grind) h
theorem t8{Q}(n:Int)(o: -9223372036854775808≤n)(h1:n≤9223372036854775807)(H:Heap)(h:Q (.agg (C5 n)) H):D7 228 [.int .i64 n] H Q:=by
 refine A9 [] A6 Tryz.func228 rfl ?_;simp only[go_sem,seval,Tryz.results228];by_cases hn:n<0
 ·have i:IntKind.u64.wrap n=n+18446744073709551616:=by rw[IntKind.wrap];simp only[IntKind.signed,IntKind.bits];simp;omega
  have m:IntKind.u64.wrap (0-(n+18446744073709551616))=(n.natAbs:Int):=by rw[IntKind.wrap];simp only[IntKind.signed,IntKind.bits];simp;omega
  rw[←W6 n n.natAbs true rfl (by rw[D1J hn])]at h;repeat' (first|simp only[go_sem,seval,hn,decide_true,i,m]|intro j|with_reducible refine C3q n.natAbs (by omega) _ ?_)
  exact D2j (by simp only[F0,D3,D4]at* <;>grind) h
 ·have i:IntKind.u64.wrap n=(n.natAbs:Int):=by rw[A0P (by omega) (by omega)];omega
  rw[←W6 n n.natAbs false rfl (by rw[D1K hn])]at h;repeat' (first|simp only[go_sem,seval,hn,decide_false,i]|intro j|with_reducible refine C3q n.natAbs (by omega) _ ?_)
  exact D2j (by simp only[F0,D3,D4]at* <;>grind) h
end Go.Proofs.YtibphjonmikciaaGreatDoor
namespace Go.Av
theorem A02{H z:Heap}{E G:Env}{c m sz s n:Nat}{rest:List D}{es X:List (List D)}(I:Av.Sub G E)(hn:n=es.length)(hc:z c=some (.vec s (X++[.vec m sz 0 n::rest])))(hm:z m=some (.vec sz es))(A:m≠c)
  (J: ∀k o,k≠c→H k=some o→k≠m∧z k=some o):A1N G (H.set c (.vec s (X++[.sl sz es::rest]))) E z:=by
 refine A40 hm (B6O I) (fun k o' ho=>?_);unfold Heap.set at ho;by_cases hk:k=c
 ·subst hk;rw[if_pos rfl]at ho;cases ho;refine⟨Ne.symm A,_,hc,.vec _ _ _ (by simp) fun i y T p h=>?_⟩;by_cases M:i<X.length
  ·rw[D2B M]at p h;rw[p]at h;cases h;exact⟨rfl,fun j d d' u r=>by rw[u]at r;cases r;exact .same _⟩
  ·rw[D2C (by omega)]at p h;by_cases x:i-X.length=0
   ·rw[x]at p h;cases p;cases h;refine⟨by simp,fun j d d' u r=>?_⟩;cases j with
    |zero=>cases u;cases r;rw[hn];exact .all
    |succ j=>
     rw[D1n]at u r;rw[u]at r;cases r;exact .same _
   ·obtain⟨q,hq⟩: ∃q,i-X.length=q+1:=⟨_,(Nat.succ_pred x).symm⟩
    rw[hq]at p;cases p
 ·rw[if_neg hk]at ho;obtain⟨h1,O⟩:=J k o' hk ho;exact⟨h1,o',O,.same _⟩
end Go.Av
namespace Go.Lin
open Go Go.Av
theorem B9w(a b:Int)(h:b≠0):(a.fdiv b).natAbs≤a.natAbs+1:=by
 have hk:=Nat.div_le_self a.natAbs b.natAbs;by_cases i:a=0
 ·rw[A2X a b h (.inr i),Int.natAbs_natCast];omega
 ·by_cases hs:decide (a<0)=decide (b<0)
  ·rw[A2X a b h (.inl hs),Int.natAbs_natCast];omega
  ·rw[A4a a b h i hs];split
   ·rw[Int.natAbs_neg,Int.natAbs_natCast];omega
   ·rw[Int.natAbs_neg,Int.natAbs_natCast];omega
theorem A1V{a b:Int}{m n:Nat}(h:a.natAbs≤m)(hb:b.natAbs≤n):(a*b).natAbs≤m*n:=by rw[Int.natAbs_mul];exact Nat.mul_le_mul h hb
theorem B3U{H:Heap}{b c:Nat}{A i B:Av.Obj}(h:c≠b):((H.set b i).set c B).Le (((H.set b A).set c B).set b i):=fun q o hq=>by
 by_cases e:q=b
 ·subst e;rw[A2 _ h.symm,A3]at hq;rw[A3];exact hq
 ·rw[A2 _ e];by_cases e2:q=c
  ·subst e2;rw[A3]at hq⊢;exact hq
  ·rw[A2 _ e2,A2 _ e]at hq⊢;exact hq
def zB:List D:=[.bool false,.nilsl]
def j4(C:List Int)(n i:Nat):List (List D):=Rw C5 (C.take i)++List.replicate (n-i) zB
theorem A3m(C:List Int)(n i:Nat)(h:C.length=n)(j:i≤n):(j4 C n i).length=n:=by simp[j4,Rw];omega
theorem A2Y(C:List Int)(n:Nat):j4 C n 0=List.replicate n zB:=by simp[j4,Rw]
theorem A3n(C:List Int)(n:Nat)(h:C.length=n):j4 C n n=Rw C5 C:=by simp[j4,←h]
theorem A16(C:List Int)(n i:Nat)(h:C.length=n)(j:i<n)(c:List D)(hc:C5 (C[i]'(by omega))=c):(j4 C n i).set i c=j4 C n (i+1):=by
 subst hc;unfold j4;have hl:(Rw C5 (C.take i)).length=i:=by simp[Rw];omega
 have e:n-i=(n-(i+1))+1:=by omega
 rw[List.set_append_right _ _ (by omega),hl,Nat.sub_self,e,List.replicate_succ,List.set_cons_zero,O9 _ _ (by omega),D15];rfl
theorem A03(C:List Int)(n i j:Nat)(h:C.length=n)(m:i≤j)(o:j<n):(j4 C n i)[j]? =some zB:=by
 unfold j4;have hl:(Rw C5 (C.take i)).length=i:=by simp[Rw];omega
 rw[D2C (by omega),hl,List.getElem?_replicate,if_pos (by omega)]
theorem A04(C:List Int)(n i j:Nat)(h:C.length=n)(m:i≤j)(o:j<n):(j4 C n i).getD j []=zB:=by
 rw[List.getD_eq_getElem?_getD,A03 C n i j h m o];rfl
end Go.Lin
namespace Go.Proofs.YtibphjonmikciaaGreatDoor
open Go Go.Av Go.Lin
attribute [local irreducible] ACalls S9
theorem B6q{Q}(a b:Int)(ha:a.natAbs≤18446744073709551616)(J:0<b)(hb:b<2147483648)(H:Heap)(h:Q (.agg (C5 (A00 a b))) H):D7 258 [.agg (C5 a),.agg (C5 b)] H Q:=by
 refine A9 [(2,.par)] A6 Tryz.func258 rfl ?_;simp only[go_sem,seval,Tryz.results258];intro q M r u b4 j;simp only[A5]at u j;have O:=j.2.1.symm;have T:=j.1.symm;have U:=u.1.symm;obtain⟨t,ht⟩: ∃t:Int,t=2:=⟨2,rfl⟩
 have hw: ∀(H':Heap) (y:D→Heap→Prop),y (.agg (C5 t)) H'→D7 228 [.int .i64 2] H' y:=fun H' y hq=>t8 2 (by omega) (by omega) H' (by rw[←ht];exact hq);repeat' (first|simp only[go_sem,seval]|(intro o;try simp only[A5]at o)|with_reducible refine hw _ _ ?_)
 rename_i b5;have p:=o;clear o;have V:q∈[q,r,b5]:=by simp
 have W:r∈[q,r,b5]:=by simp
 have X:b5∈[q,r,b5]:=by simp
 have Y:=p.1;have a0:=p.2.1.symm;have a6:=p.2.2.1.symm;obtain⟨f,z⟩: ∃f,f=(a*t+b).fdiv (b*t):=⟨_,rfl⟩
 have x:=B9w (a*t+b) (b*t) (by subst ht;omega);rw[←z]at x;have x:f.natAbs≤55340232221128654849:=by(have:(a*t+b).natAbs≤55340232221128654848:=by(subst ht;omega));omega
 have a9:=A1V (a:=b) (b:=f) (m:=2147483648) (n:=55340232221128654849) (by omega) (by omega);have G:Sz a:=H6 (by omega);have A:Sz b:=H6 (by omega);have I:Sz t:=H6 (by omega);have s4:Sz (a*t):=H6 (by subst ht;omega);have s5:Sz (a*t+b):=H6 (by subst ht;omega);have s6:Sz f:=H6 (by omega);have s7:Sz (b*f):=H6 (by omega);refine F9 (fun i=>if i=4 then .agg (C5 (a*t))else if i=6 then .agg (C5 (a*t+b))else if i=9 then .agg (C5 (b*t))else if i=10 then .agg (C5 f)else if i=11 then .agg (C5 (b*f))else if i=12 then .agg (C5 (a-b*f))else .undef) [q,r,b5] ?_;repeat' (first|with_reducible apply D1H|simp only[go_sem,seval,V,W,X]|simp(disch:=first|omega|grind) only[A8]|with_reducible refine R5 (fun H' Q hro hq=>S6 a t G I H' hq) ?_|with_reducible refine R5 (fun H' Q hro hq=>A0X (a*t) b s4 A H' hq) ?_|with_reducible refine R5 (fun H' Q hro hq=>S6 b t A I H' hq) ?_|with_reducible refine R5 (fun H' Q hro hq=>A3l (a*t+b) (b*t) s5 (by subst ht;omega) (by subst ht;omega) H' (by rw[←z];exact hq)) ?_|with_reducible refine R5 (fun H' Q hro hq=>S6 b f A s6 H' hq) ?_|with_reducible refine R5 (fun H' Q hro hq=>A0K a (b*f) G s7 H' hq) ?_)
 have e:A00 a b=a-b*f:=by rw[z,ht];rfl
 rw[e]at h;exact D2j (by simp only[F0,D3,D4]at* <;>grind) h
def A5N(r:Row)(m:Nat):Prop:=r.k.natAbs≤m∧∀x∈r.c,x.natAbs≤m
theorem A27{Q}(a b:Row)(s:Int)(hs:s=1∨s= -1)(hl:a.c.length=b.c.length)(hlen:a.c.length≤1000000)(U:A5N a 18446744073709551616)(hb:A5N b 18446744073709551616)(H:Heap)(h:Q (.bool (A4X a b s)) H):
  D7 281 [.agg (C6 a),.agg (C6 b),.int .i64 s] H Q:=by
 refine A9 [] A6 Tryz.func281 rfl ?_;simp only[go_sem,seval,Tryz.results281];intro z V A G;simp only[A5]at G;have e3:((H.set z (.box (C6 a))).set A (.box (C6 b))) z=some (.box (C6 a)):=by rw[A2 _ G.1.symm,A3]
 have y:((H.set z (.box (C6 a))).set A (.box (C6 b))) A=some (.box (C6 b)):=A3 _ _;have I:H.Le ((H.set z (.box (C6 a))).set A (.box (C6 b))):=(by simp only[F0,D3,D4]at* <;>grind)
 generalize (H.set z (.box (C6 a))).set A (.box (C6 b))=Bs at e3 y I⊢;repeat' simp only[go_sem,seval,e3,y]
 have key:A4X a b s=true↔∀(k:Nat) (h1:k<a.c.length) (p:k<b.c.length),a.c[k]=b.c[k]*s:=by
  unfold A4X;rw[beq_iff_eq];constructor
  ·intro e k h1 p;have:=List.getElem_of_eq e h1;rw[this,D17]
  ·intro e;apply D2c (by simpa using hl);intro k h1 p;rw[D17];exact e k h1 (by simpa using p)
 refine C8 [2,4,11,12] (fun(i:Nat)=>[(13,.int .i64 i)]) (fun(i:Nat)=>Bs) (fun(i:Nat)=>i≤a.c.length∧∀(k:Nat) (h1:k<a.c.length) (p:k<b.c.length),k<i→a.c[k]=b.c[k]*s) (fun(i:Nat)=>a.c.length-i) (0) (⟨D1c _,fun k _ _ h=>absurd h (Nat.not_lt_zero _)⟩) (by(try simp only[go_sem,seval])<;>(try simp(disch:=omega) [A4])) (by first|exact D2i _|exact A0 (by assumption)|exact B9 (by assumption)|simp only[Heap.Le,Heap.set,Heap.del]at* <;>grind) ?_;rintro W rfl i ⟨X,r⟩;by_cases j:i<a.c.length
 ·have q:decide ((i:Int)<a.c.length)=true:=D1J (by omega);have m:i<b.c.length:=by omega
  have a1:=U.2 _ (D1V j);have Y:=hb.2 _ (D1V m);have O:Sz a.c[i]:=H6 (by omega);have T:Sz b.c[i]:=H6 (by omega);have u:(i:Int)<b.c.length:=by omega
  have J:Sz (-b.c[i]):=H6 (by omega);rcases hs with rfl|rfl
  ·have M:b.c[i]*1=b.c[i]:=by omega
   by_cases he:a.c[i]=b.c[i]
   ·have x:(a.c[i]-b.c[i]).sign=0:=by rw[he,Int.sub_self];rfl
    repeat' (first|with_reducible apply D1H|simp only[go_sem,seval,q,e3,y,u,B3 _ _ j,C3 _ _ j,B3 _ _ m,C3 _ _ m,x]|simp(disch:=omega) only[A4,B3]|simp(disch:=first|omega|grind) only[A8]|(intro o;try simp only[A5]at o)|with_reducible refine A0K _ _ O T _ ?_|with_reducible refine L3 _ _ ?_|omega)
    refine C4 (i+1) ⟨by omega,fun k h1 p hk=>?_⟩ (by omega) (by(try simp only[go_sem,seval])<;>(try simp(disch:=omega) [A4])) (by simp only[F0,D3,D4]at* <;>grind);by_cases e:k=i
    ·subst e;rw[M];exact he
    ·exact r k h1 p (by omega)
   ·have x: ¬((a.c[i]-b.c[i]).sign=0):=by rw[Int.sign_eq_zero_iff_zero];omega
    have h1:A4X a b (1)=false:=by rw[←D2d];exact fun g=>he (by rw[←M];exact key.1 g i j m)
    have p:((a.c[i]-b.c[i]).sign != 0)=true:=by rw[bne_iff_ne];exact x
    repeat' (first|with_reducible apply D1H|simp only[go_sem,seval,q,e3,y,u,B3 _ _ j,C3 _ _ j,B3 _ _ m,C3 _ _ m,p]|simp(disch:=omega) only[A4,B3]|simp(disch:=first|omega|grind) only[A8]|(intro o;try simp only[A5]at o)|with_reducible refine A0K _ _ O T _ ?_|with_reducible refine L3 _ _ ?_|omega)
    rw[h1]at h;exact D2j (by simp only[F0,D3,D4]at* <;>grind) h
  ·have M:b.c[i]* -1= -b.c[i]:=by omega
   by_cases he:a.c[i]= -b.c[i]
   ·have x:(a.c[i]- -b.c[i]).sign=0:=by rw[he,Int.sub_self];rfl
    repeat' (first|with_reducible apply D1H|simp only[go_sem,seval,q,e3,y,u,B3 _ _ j,C3 _ _ j,B3 _ _ m,C3 _ _ m,x]|simp(disch:=omega) only[A4,B3]|simp(disch:=first|omega|grind) only[A8]|(intro o;try simp only[A5]at o)|with_reducible refine A4b _ _ ?_|with_reducible refine A0K _ _ O J _ ?_|with_reducible refine L3 _ _ ?_|omega)
    refine C4 (i+1) ⟨by omega,fun k h1 p hk=>?_⟩ (by omega) (by(try simp only[go_sem,seval])<;>(try simp(disch:=omega) [A4])) (by simp only[F0,D3,D4]at* <;>grind);by_cases e:k=i
    ·subst e;rw[M];exact he
    ·exact r k h1 p (by omega)
   ·have x: ¬((a.c[i]- -b.c[i]).sign=0):=by rw[Int.sign_eq_zero_iff_zero];omega
    have h1:A4X a b (-1)=false:=by rw[←D2d];exact fun g=>he (by rw[←M];exact key.1 g i j m)
    have p:((a.c[i]- -b.c[i]).sign != 0)=true:=by rw[bne_iff_ne];exact x
    repeat' (first|with_reducible apply D1H|simp only[go_sem,seval,q,e3,y,u,B3 _ _ j,C3 _ _ j,B3 _ _ m,C3 _ _ m,p]|simp(disch:=omega) only[A4,B3]|simp(disch:=first|omega|grind) only[A8]|(intro o;try simp only[A5]at o)|with_reducible refine A4b _ _ ?_|with_reducible refine A0K _ _ O J _ ?_|with_reducible refine L3 _ _ ?_|omega)
    rw[h1]at h;exact D2j (by simp only[F0,D3,D4]at* <;>grind) h
 ·have q:decide ((i:Int)<a.c.length)=false:=D1K (by omega);repeat' simp only[go_sem,seval,q]
  rw[key.2 (fun k h1 p=>r k h1 p (by omega))]at h;exact D2j I h
set_option maxHeartbeats 1000000 in
theorem B6r{Q}(x y:Row)(a b:Int)(hl:x.c.length=y.c.length)(hlen:x.c.length≤1000000)(hx:A5N x 18446744073709551616)(hy:A5N y 18446744073709551616)(ha:a.natAbs≤18446744073709551616)(hb:b.natAbs≤18446744073709551616)(H:Heap)
  (h:Q (.agg (C6 (A13 x a y b))) H):D7 264 [.agg (C6 x),.agg (C5 a),.agg (C6 y),.agg (C5 b)] H Q:=by
 refine A9 [(1,.par),(5,.par)] A6 Tryz.func264 rfl ?_;simp only[go_sem,seval,Tryz.results264];intro j h4 b5 h5 m h6 r h7 I h8;simp only[A5]at h5 h6 h7 h8;have U:(((((H.set j (.box (C6 x))).set b5 (.box (C5 a))).set m (.box (C6 y))).set r (.box (C5 b))).set I (.box [.nilsl,.bool false,.nilsl,.bool false])) j=some (.box (C6 x)):=by simp(disch:=first|omega|grind) only[A8,A3]
 have e5:(((((H.set j (.box (C6 x))).set b5 (.box (C5 a))).set m (.box (C6 y))).set r (.box (C5 b))).set I (.box [.nilsl,.bool false,.nilsl,.bool false])) b5=some (.box (C5 a)):=by simp(disch:=first|omega|grind) only[A8,A3]
 have V:(((((H.set j (.box (C6 x))).set b5 (.box (C5 a))).set m (.box (C6 y))).set r (.box (C5 b))).set I (.box [.nilsl,.bool false,.nilsl,.bool false])) m=some (.box (C6 y)):=by simp(disch:=first|omega|grind) only[A8,A3]
 have W:(((((H.set j (.box (C6 x))).set b5 (.box (C5 a))).set m (.box (C6 y))).set r (.box (C5 b))).set I (.box [.nilsl,.bool false,.nilsl,.bool false])) r=some (.box (C5 b)):=by simp(disch:=first|omega|grind) only[A8,A3]
 have e8:(((((H.set j (.box (C6 x))).set b5 (.box (C5 a))).set m (.box (C6 y))).set r (.box (C5 b))).set I (.box [.nilsl,.bool false,.nilsl,.bool false])) I=some (.box [.nilsl,.bool false,.nilsl,.bool false]):=A3 _ _;have X:H.Le ((((H.set j (.box (C6 x))).set b5 (.box (C5 a))).set m (.box (C6 y))).set r (.box (C5 b))):=(by simp only[F0,D3,D4]at* <;>grind)
 have Y:((((H.set j (.box (C6 x))).set b5 (.box (C5 a))).set m (.box (C6 y))).set r (.box (C5 b))) I=none:=by simp only[A5];exact h8
 have O:=X.trans (A0 (o:=.box [.nilsl,.bool false,.nilsl,.bool false]) Y);have c0:H I=none:=X.none Y;generalize (((((H.set j (.box (C6 x))).set b5 (.box (C5 a))).set m (.box (C6 y))).set r (.box (C5 b))).set I (.box [.nilsl,.bool false,.nilsl,.bool false]))=Bs at U e5 V W e8 O⊢;clear X Y h4 h5 h6 h7 h8;have xk:=hx.1;have yk:=hy.1;have m1:=A1V xk ha;have m2:=A1V yk hb;have s1:Sz x.k:=H6 (by omega);have s2:Sz y.k:=H6 (by omega);have s3:Sz a:=H6 (by omega);have s4:Sz b:=H6 (by omega);have s5:Sz (x.k*a):=B0g (k:=5) (by omega) (by decide);have s6:Sz (y.k*b):=B0g (k:=5) (by omega) (by decide);have q4:j∈[j,b5,m,r]:=by simp
 have q5:b5∈[j,b5,m,r]:=by simp
 have q6:m∈[j,b5,m,r]:=by simp
 have q7:r∈[j,b5,m,r]:=by simp
 refine F9 (fun i=>if i=7 then .agg (C5 (x.k*a))else if i=11 then .agg (C5 (y.k*b))else if i=12 then .agg (C5 (x.k*a+y.k*b))else .undef) [j,b5,m,r] ?_;repeat' (first|with_reducible apply D1H|simp only[go_sem,seval,U,e5,V,W,q4,q5,q6,q7]|simp(disch:=first|omega|grind) only[A8,D0]|(intro a0;try simp only[A5]at a0)|with_reducible refine R5 (fun H' Q hro hq=>S6 x.k a s1 s3 H' hq) ?_|with_reducible refine R5 (fun H' Q hro hq=>S6 y.k b s2 s4 H' hq) ?_|with_reducible refine R5 (fun H' Q hro hq=>A0X (x.k*a) (y.k*b) s5 s6 H' hq) ?_|omega)
 rename_i J z u;have h9:=a0;clear a0;obtain⟨C,hC⟩: ∃C,C=List.zipWith (fun p q=>p*a+q*b) x.c y.c:=⟨_,rfl⟩
 have A:C.length=x.c.length:=by rw[hC];simp[hl]
 have b2:List.replicate x.c.length [D.bool false,.nilsl]=j4 C x.c.length 0:=(A2Y _ _).symm;rw[b2];obtain⟨k,hk⟩: ∃k,k=x.k*a+y.k*b:=⟨_,rfl⟩
 have n9:u≠J:=h9.1;have f4:j≠J:=fun e=>by rw[e,z]at U;cases U
 have f5:b5≠J:=fun e=>by rw[e,z]at e5;cases e5
 have f6:m≠J:=fun e=>by rw[e,z]at V;cases V
 have f7:r≠J:=fun e=>by rw[e,z]at W;cases W
 have f8:I≠J:=fun e=>by rw[e,z]at e8;cases e8
 have g4:j≠u:=fun e=>by rw[e,h9.2]at U;cases U
 have g5:b5≠u:=fun e=>by rw[e,h9.2]at e5;cases e5
 have g6:m≠u:=fun e=>by rw[e,h9.2]at V;cases V
 have g7:r≠u:=fun e=>by rw[e,h9.2]at W;cases W
 have g8:I≠u:=fun e=>by rw[e,h9.2]at e8;cases e8
 refine C8 [4,5,6,7,8,9,29] (fun(i:Nat)=>[(30,.int .i64 i)]) (fun(i:Nat)=>(Bs.set J (.vec 2 (j4 C x.c.length i))).set u (.box [.vec J 2 0 x.c.length,.bool (decide (x.k*a+y.k*b<0)),.sl 1 (Rw F4 (C2 (x.k*a+y.k*b).natAbs)),.bool x.eq])) (fun(i:Nat)=>i≤x.c.length) (fun(i:Nat)=>x.c.length-i) (0) (D1c _) (by(try simp only[go_sem,seval])<;>(try simp(disch:=omega) [A4])) (by first|exact D2i _|exact A0 (by assumption)|exact B9 (by assumption)|simp only[Heap.Le,Heap.set,Heap.del]at* <;>grind) ?_;rintro Ec rfl i hi;have c2:=A3m C x.c.length i A hi;by_cases G:i<x.c.length
 ·have a6:decide ((i:Int)<x.c.length)=true:=D1J (by omega);have a9:i<y.c.length:=by omega
  have c4:(i:Int)<y.c.length:=by omega
  have c8:i<C.length:=by omega
  have x1:=hx.2 _ (D1V G);have y1:=hy.2 _ (D1V a9);have p1:=A1V x1 ha;have p2:=A1V y1 hb;have t1:Sz x.c[i]:=H6 (by omega);have t2:Sz y.c[i]:=H6 (by omega);have t3:Sz (x.c[i]*a):=B0g (k:=5) (by omega) (by decide);have t4:Sz (y.c[i]*b):=B0g (k:=5) (by omega) (by decide);have c5:C[i]=x.c[i]*a+y.c[i]*b:=by simp only[hC,List.getElem_zipWith]
  have T:=A16 C x.c.length i A G (C5 (x.c[i]*a+y.c[i]*b)) (by rw[c5]);have c6:=A04 C x.c.length i i A (D1b _) G;have b3:=A03 C x.c.length i i A (D1b _) G;have r4:j∈[j,b5,m,r,u]:=by simp
  have r5:b5∈[j,b5,m,r,u]:=by simp
  have r6:m∈[j,b5,m,r,u]:=by simp
  have r7:r∈[j,b5,m,r,u]:=by simp
  have r9:u∈[j,b5,m,r,u]:=by simp
  repeat' simp only[go_sem,seval,a6]
  refine F9 (fun i'=>if i'=9 then .agg (C5 (x.c[i]*a))else if i'=16 then .agg (C5 (y.c[i]*b))else if i'=17 then .agg (C5 (x.c[i]*a+y.c[i]*b))else .undef) [j,b5,m,r,u] ?_;repeat' (first|with_reducible apply D1H|simp only[go_sem,seval,U,e5,V,W,r4,r5,r6,r7,r9,c4,c2,c6,b3,B3 _ _ G,C3 _ _ G,B3 _ _ a9,C3 _ _ a9,T]|simp(disch:=omega) only[A4,B3]|simp(disch:=first|omega|grind) only[A8,D0]|with_reducible refine R5 (fun H' Q hro hq=>S6 x.c[i] a t1 s3 H' hq) ?_|with_reducible refine R5 (fun H' Q hro hq=>S6 y.c[i] b t2 s4 H' hq) ?_|with_reducible refine R5 (fun H' Q hro hq=>A0X (x.c[i]*a) (y.c[i]*b) t3 t4 H' hq) ?_|omega)
  refine C4 (i+1) (by omega) (by omega) (by(try simp only[go_sem,seval])<;>(try simp(disch:=omega) [A4])) ?_;have b0:(j4 C x.c.length i).set i ((zB.set 0 (D.bool (decide (x.c[i]*a+y.c[i]*b<0)))).set 1 (D.sl 1 (Rw F4 (C2 (x.c[i]*a+y.c[i]*b).natAbs))))=j4 C x.c.length (i+1):=T;rw[b0];exact B3U n9
 ·have a6:decide ((i:Int)<x.c.length)=false:=D1K (by omega);have c7:i=x.c.length:=by omega
  subst c7;rw[A3n C _ A];repeat' (first|simp only[go_sem,seval,a6,e8]|simp(disch:=first|omega|grind) only[A8,D0])
  have b1:x.c.length=(Rw C5 C).length:=by rw[D6,A]
  refine R0 (b:=J) (sz:=2) (es:=Rw C5 C) (cs':=C6 (A13 x a y b)) (by rw[A2 _ f8.symm,A2 _ n9.symm,A3]) rfl (fun i d d' e1 e2=>?_) (D2j (fun q o hq=>?_) h)
  ·match i with
   |0=>
    cases e1;cases e2;show Fz J 2 (Rw C5 C) (.vec J 2 0 x.c.length) (.sl 2 (Rw C5 (List.zipWith (fun p q=>p*a+q*b) x.c y.c)));rw[←hC,b1];exact .all
   |1=>cases e1;cases e2;exact .same _
   |2=>cases e1;cases e2;exact .same _
   |3=>cases e1;cases e2;exact .same _
   |i+4=>cases e1
  ·have M:=O q o hq;have d1:q≠J:=fun e=>by rw[e,z]at M;cases M
   have d2:q≠u:=fun e=>by rw[e,h9.2]at M;cases M
   have d3:q≠I:=fun e=>by rw[e,c0]at hq;cases hq
   rw[D0 d1,A2 _ d3,A2 _ d2,A2 _ d1];exact M
end Go.Proofs.YtibphjonmikciaaGreatDoor
namespace Go.Lin
open Go Go.Av Go.Lexs
open Classical in
noncomputable def I7(ks:List ByteArray)(s:ByteArray):List ByteArray:=if s∈ks then ks else ks++[s]
theorem A28{ks:List ByteArray}{s:ByteArray}(h:ks.Nodup):(I7 ks s).Nodup:=by
 unfold I7;split
 ·exact h
 ·rename_i g;exact List.nodup_append.2 ⟨h,by simp,fun a i b hb=>by simp at hb;subst hb;exact fun e=>g (e ▸ i)⟩
theorem B0j{ks:List ByteArray}{s x:ByteArray}:x∈I7 ks s↔x∈ks∨x=s:=by
 unfold I7;split
 ·rename_i g;constructor
  ·exact .inl
  ·rintro(h|rfl);exact h;exact g
 ·simp
theorem B6s(ks:List ByteArray)(s:ByteArray):(I7 ks s).length≤ks.length+1:=by
 unfold I7;split<;>simp
theorem U7(m:List ByteArray): ∀ks:List ByteArray,ks.Nodup→(m.foldl I7 ks).Nodup:=by
 induction m with
 |nil=>exact fun ks h=>h
 |cons s m i=>exact fun ks h=>i _ (A28 h)
theorem A7r(m:List ByteArray)(x:ByteArray): ∀ks:List ByteArray,x∈m.foldl I7 ks↔x∈ks∨x∈m:=by
 induction m with
 |nil=>intro ks;simp
 |cons s m h=>intro ks;rw[List.foldl_cons,h,B0j,D1j,or_assoc]
theorem A7s(m:List ByteArray): ∀ks:List ByteArray,(m.foldl I7 ks).length≤ks.length+m.length:=by
 induction m with
 |nil=>intro ks;simp
 |cons s m h=>intro ks;have:=h (I7 ks s);have:=B6s ks s;simp only[List.foldl_cons,D1M];omega
theorem B4e(f:ByteArray→D)(s:ByteArray)(ks:List ByteArray):D2 f (s::ks)=(.str s,f s)::D2 f ks:=rfl
theorem find_strM(f:ByteArray→D)(s:ByteArray): ∀(ks:List ByteArray) (i:Nat),(s∉ks∧P5 (.one .str) (.str s) (D2 f ks) i=some none)∨∃j,∃m:j<ks.length,ks[j]=s∧P5 (.one .str) (.str s) (D2 f ks) i=some (some (i+j,f s))
 | [],i=>.inl ⟨by simp,rfl⟩
 |t::ks,i=>by
  have e:A4v (.one .str) (.str s) (.str t)=some (decide (s=t)):=by
   rw[A4v,V0]
   congr 1
   rw[Bool.eq_iff_iff,beq_iff_eq,D1d];exact⟨fun g=>l7 g,fun g=>by rw[g]⟩
  rw[B4e,P5];simp only[e,D1l,D1d];by_cases c:s=t
  ·subst c;rw[if_pos rfl];exact .inr ⟨0,by simp,rfl,rfl⟩
  ·rw[if_neg c];rcases find_strM f s ks (i+1)with⟨h1,h⟩|⟨j,m,h1,h⟩
   ·exact .inl ⟨by rw[D1j,not_or];exact⟨c,h1⟩,h⟩
   ·exact .inr ⟨j+1,by simpa using m,by simpa using h1,by rw[h];congr 3;omega⟩
def B0k(f:ByteArray→D)(s:ByteArray)(x:D):ByteArray→D:=fun t=>if t=s then x else f t
theorem B6t(f:ByteArray→D)(s:ByteArray)(x:D)(ks:List ByteArray)(hn:ks.Nodup):(P5 (.one .str) (.str s) (D2 f ks) 0).map (fun r=>A5v (D2 f ks) (.str s) x r)=some (D2 (B0k f s x) (I7 ks s)):=by
 rcases find_strM f s ks 0 with⟨h1,h⟩|⟨j,m,h1,h⟩
 ·rw[h];show some (D2 f ks++[(.str s,x)])=_;unfold I7;rw[if_neg h1];unfold D2;rw[D2H]
  congr 2
  ·refine List.map_congr_left fun t ht=>?_;have:t≠s:=fun e=>h1 (e ▸ ht);simp[B0k,this]
  ·simp[B0k]
 ·rw[h];show some ((D2 f ks).set (0+j) (.str s,x))=_;have hm:s∈ks:=by rw[←h1];exact D1V m
  unfold I7;rw[if_pos hm,Nat.zero_add]
  congr 1
  apply D2c
  ·simp[D2]
  ·intro i u p;have o:i<ks.length:=by simpa [D2]using p
   by_cases e:j=i
   ·subst e;rw[List.getElem_set_self];simp[D2,B0k,h1]
   ·rw[List.getElem_set_ne e];have:ks[i]≠s:=fun g=>by
     have hp:=List.pairwise_iff_getElem.1 hn;rcases Nat.lt_or_gt_of_ne e with q|q
     ·exact hp j i m o q (h1.trans g.symm)
     ·exact hp i j o m q (g.trans h1.symm)
    simp[D2,B0k,this]
theorem Y9{H:Heap}{b:Nat}(f:ByteArray→D)(s:ByteArray)(x:D)(ks:List ByteArray)(hn:ks.Nodup):(P5 (.one .str) (.str s) (D2 f ks) 0).map (fun r=>H.set b (.map (A5v (D2 f ks) (.str s) x r)))=some (H.set b (.map (D2 (B0k f s x) (I7 ks s)))):=by
 have:=congrArg (Option.map fun m=>H.set b (.map m)) (B6t f s x ks hn);rw[Option.map_map]at this;exact this
open Classical in
theorem A2Z(f:ByteArray→D)(s:ByteArray)(z:D)(ks:List ByteArray):(P5 (.one .str) (.str s) (D2 f ks) 0).map (A2s false z)=some (if s∈ks then f s else z):=by
 rcases find_strM f s ks 0 with⟨h1,h⟩|⟨j,i,h1,h⟩
 ·rw[h,if_neg h1];rfl
 ·have hm:s∈ks:=by rw[←h1];exact D1V i
  rw[h,if_pos hm];rfl
abbrev tt:ByteArray→D:=fun _=>.bool true
theorem A29(s:ByteArray):B0k tt s (.bool true)=tt:=by
 funext t;unfold B0k;split<;>rfl
def A0Y(l:List LinV)(i j:Nat):List ByteArray:=O8 (l.take i)++(((l.getD i default).t.take j).map (·.v))
theorem B2D(l:List LinV)(i:Nat)(h:i<l.length):A0Y l i l[i].t.length=A0Y l (i+1) 0:=by
 unfold A0Y O8;rw[D1a h,List.flatMap_append];simp[h]
theorem B2E(l:List LinV)(i j:Nat)(h:i<l.length)(m:j<l[i].t.length):A0Y l i (j+1)=A0Y l i j++[l[i].t[j].v]:=by
 unfold A0Y;rw[show l.getD i default=l[i]by simp[h],D1a m,D2H,←D15];rfl
theorem B4f(l:List LinV):A0Y l l.length 0=O8 l:=by simp[A0Y]
theorem B2F(m:List ByteArray)(s:ByteArray):(m++[s]).foldl I7 []=I7 (m.foldl I7 []) s:=by rw[D19];rfl
end Go.Lin
namespace Go.Proofs.YtibphjonmikciaaGreatDoor
open Go Go.Av Go.Lexs Go.Lin
attribute [local irreducible] ACalls S9
theorem C3t{Q}(l:List LinV)(hlen:l.length≤1000000000)(U:(O8 l).length≤1000000000)(hst: ∀s∈O8 l,s.size≤4611686018427387904)(I: ∀c∈l,c.t.length≤1000000000)(H:Heap)(h:Q (.sl 1 (Rw j9 (A1w l))) H):D7 198 [.sl 3 (Rw E8 l)] H Q:=by
 refine A9 [] A6 Tryz.func198 rfl ?_;simp only[go_sem,seval,Tryz.results198];repeat' (intro m;try simp only[A5]at m)
 rename_i p;have V:=m;clear m;rw[show ([]:List (D×D))=D2 tt ((A0Y l 0 0).foldl I7 [])from rfl];refine C8 [3,9,10] (fun(i:Nat)=>[(11,.int .i64 i)]) (fun(i:Nat)=>H.set p (.map (D2 tt ((A0Y l i 0).foldl I7 [])))) (fun(i:Nat)=>i≤l.length) (fun(i:Nat)=>l.length-i) (0) (D1c _) (by(try simp only[go_sem,seval])<;>(try simp(disch:=omega) [A4])) (by first|exact D2i _|exact A0 (by assumption)|exact B9 (by assumption)|simp only[Heap.Le,Heap.set,Heap.del]at* <;>grind) ?_;rintro W rfl i hi;by_cases q:i<l.length
 ·have u:decide ((i:Int)<l.length)=true:=D1J (by omega);have X:(i:Int)<l.length:=by omega
  have Y:=I _ (D1V q);repeat' (first|with_reducible apply D1H|simp only[go_sem,seval,u,B3 _ _ q,C3 _ _ q]|(intro m;try simp only[A5]at m)|omega)
  rename_i b5;have h5:=m;clear m;have a0:(H.set p (.map (D2 tt ((A0Y l i 0).foldl I7 [])))).Le ((H.set p (.map (D2 tt ((A0Y l i 0).foldl I7 [])))).set b5 (.box (E8 l[i]))):=(by simp only[F0,D3,D4]at* <;>grind)
  refine C8 [3,9,10,11,16,17] (fun(j:Nat)=>[(18,.int .i64 j)]) (fun(j:Nat)=>H.set p (.map (D2 tt ((A0Y l i j).foldl I7 [])))) (fun(j:Nat)=>j≤l[i].t.length) (fun(j:Nat)=>l[i].t.length-j) (0) (D1c _) (by(try simp only[go_sem,seval])<;>(try simp(disch:=omega) [A4])) (by first|exact D2i _|exact A0 (by assumption)|exact B9 (by assumption)|simp only[Heap.Le,Heap.set,Heap.del]at* <;>grind) ?_;rintro W rfl j hj;by_cases x:j<l[i].t.length
  ·have r:decide ((j:Int)<l[i].t.length)=true:=D1J (by omega);have J:(j:Int)<l[i].t.length:=by omega
   have y:((A0Y l i j).foldl I7 []).Nodup:=U7 _ [] List.nodup_nil;have ns:=B2E l i j q x;repeat' (first|with_reducible apply D1H|simp only[go_sem,seval,r,J,B3 _ _ x,C3 _ _ x,Y9 _ _ _ _ y,A29]|simp(disch:=omega) only[A4,B3]|simp(disch:=first|omega|grind) only[A8]|(intro m;try simp only[A5]at m)|omega)
   rename_i b7;have T:=m;clear m;refine C4 (j+1) (by omega) (by omega) (by(try simp only[go_sem,seval])<;>(try simp(disch:=omega) [A4])) ?_;rw[ns,B2F];refine Heap.Le.trans (A0 (b:=b7) (o:=.box (J7 l[i].t[j])) (by simp only[A5];exact T)) (B3U T.1)
  ·have r:decide ((j:Int)<l[i].t.length)=false:=D1K (by omega);have M:j=l[i].t.length:=by omega
   subst M;rw[B2D l i q];repeat' (first|simp only[go_sem,seval,r]|simp(disch:=omega) only[A4,B3])
   exact C4 (i+1) (by omega) (by omega) (by(try simp only[go_sem,seval])<;>(try simp(disch:=omega) [A4])) (D2i _)
 ·have u:decide ((i:Int)<l.length)=false:=D1K (by omega);have O:i=l.length:=by omega
  subst O;rw[B4f];have y:((O8 l).foldl I7 []).Nodup:=U7 _ [] List.nodup_nil;have A:=A7s (O8 l) [];rw[D1O,Nat.zero_add]at A;have z: ∀s,s∈(O8 l).foldl I7 []↔s∈O8 l:=fun s=>by rw[A7r];simp
  generalize (O8 l).foldl I7 []=ks at y A z⊢;repeat' simp only[go_sem,seval,u]
  refine B9k p _ fun bk G=>?_;have f1:((H.set p (.map (D2 tt ks))).set bk (.box [.map p])) bk=some (.box [.map p]):=A3 _ _;have f2:((H.set p (.map (D2 tt ks))).set bk (.box [.map p])) p=some (.map (D2 tt ks)):=(A0 G) _ _ (A3 _ _);repeat' simp only[go_sem,seval]
  refine B9l bk p tt ks (by omega) (fun s hs=>hst s ((z s).1 hs)) _ f1 f2 fun v hv hm=>?_;have e:v=A1w l:=A6M hv (B0M l) fun s=>by rw[hm,z,A7i]
  rw[e];repeat' simp only[go_sem,seval]
  exact D2j ((A0 V).trans (A0 G)) h
end Go.Proofs.YtibphjonmikciaaGreatDoor
namespace Go.Fo
open Go Go.Av Go.Lexs Go.Lin
theorem A0Z{f k:Fm}(h:k∈f.ks):SizeOf.sizeOf k<SizeOf.sizeOf f:=by
 cases f with
 |mk o n l s ks=>
  have:SizeOf.sizeOf k<SizeOf.sizeOf ks:=List.sizeOf_lt_of_mem h;simp only[Fm.mk.sizeOf_spec];omega
def J9:Fm→Nat
 | .mk _ _ l _ ks=>1+l.t.length+wtL ks
where wtL:List Fm→Nat
 | []=>0
 |f::fs=>J9 f+wtL fs
theorem L7(f:Fm):J9 f=1+f.l.t.length+J9.wtL f.ks:=by cases f;rw[J9];rfl
theorem B3V(l m:List Fm):J9.wtL (l++m)=J9.wtL l+J9.wtL m:=by
 induction l with
 |nil=>simp[J9.wtL]
 |cons f l h=>simp only[D2S,J9.wtL,h];omega
theorem B9x(l:List Fm):l.length≤J9.wtL l:=by
 induction l with
 |nil=>simp
 |cons f l h=>rw[J9.wtL,D1M,L7];omega
theorem B6u(l:List Fm)(i:Nat)(h:i<l.length):J9.wtL (l.drop i)=J9 l[i]+J9.wtL (l.drop (i+1)):=by
 rw[D1m h,J9.wtL]
theorem FmFit.inv{f:Fm}(h:FmFit f):U3 f.op∧U3 f.n∧l4 f.l∧f.s.size≤140737488351232∧f.ks.length≤1466015503658∧∀k∈f.ks,FmFit k:=by
 cases h with
 |mk o n l s ks ho hn hl hs hk h=>exact⟨ho,hn,hl,hs,hk,h⟩
theorem FmFit.kid{f:Fm}(h:FmFit f){k:Fm}(hk:k∈f.ks):FmFit k:=h.inv.2.2.2.2.2 k hk
theorem FmFit.lin{f:Fm}(h:FmFit f):l4 f.l:=h.inv.2.2.1
theorem FmFit.txt{f:Fm}(h:FmFit f):f.s.size≤140737488351232:=h.inv.2.2.2.1
theorem FmFit.kl{f:Fm}(h:FmFit f):f.ks.length≤1466015503658:=h.inv.2.2.2.2.1
theorem B4g(f:Fm):J5 f≤J9 f:=by
 induction f using O1 with
 |h o n l s ks i=>
  rw[J5,J9];have key: ∀m:List Fm,(∀k∈m,J5 k≤J9 k)→J5.nodesL m≤J9.wtL m:=by
   intro m
   induction m with
   |nil=>intro _;simp[J5.nodesL]
   |cons f fs i=>intro h;rw[J5.nodesL,J9.wtL];have:=i (fun k hk=>h k (D1Z _ hk));have:=h f (D1S ..);omega
  have:=key ks i;omega
def foldF{σ :Type}(step: σ →Fm→Int→ σ):Fm→Int→ σ → σ
 | .mk o n l s ks,d,a=>foldK step ks (IntKind.i64.wrap (d+1)) (step a (.mk o n l s ks) d)
where foldK {σ :Type} (step: σ →Fm→Int→ σ):List Fm→Int→ σ → σ
 | [],_,a=>a
 |f::fs,d,a=>foldK step fs d (foldF step f d a)
theorem A17{σ :Type}(step: σ →Fm→Int→ σ)(f:Fm)(d:Int)(a: σ):foldF step f d a=foldF.foldK step f.ks (IntKind.i64.wrap (d+1)) (step a f d):=by cases f;rw[foldF];rfl
theorem B4h{σ :Type}(step: σ →Fm→Int→ σ)(l m:List Fm)(d:Int)(a: σ):foldF.foldK step (l++m) d a=foldF.foldK step m d (foldF.foldK step l d a):=by
 induction l generalizing a with
 |nil=>rfl
 |cons f l h=>simp only[D2S,foldF.foldK,h]
theorem B4{σ :Type}(step: σ →Fm→Int→ σ)(l:List Fm)(i:Nat)(h:i<l.length)(d:Int)(a: σ):foldF.foldK step (l.take (i+1)) d a=foldF step l[i] d (foldF.foldK step (l.take i) d a):=by
 rw[D1a h,B4h];rfl
theorem B4i{σ :Type}(step: σ →Fm→Int→ σ)(I: σ →Prop)(p: ∀a g d,I a→I (step a g d)): ∀f d a,I a→I (foldF step f d a):=by
 intro f
 induction f using O1 with
 |h o n l s ks m=>
  intro d a h;rw[A17];have i:=p _ (.mk o n l s ks) d h;revert i;generalize step a (.mk o n l s ks) d=b;show I b→I (foldF.foldK step ks _ b);generalize IntKind.i64.wrap (d+1)=d1;clear h
  induction ks generalizing b with
  |nil=>intro i;exact i
  |cons f fs j=>
   intro i;rw[foldF.foldK];exact j (fun k hk=>m k (D1Z _ hk)) _ (m f (D1S ..) _ _ i)
def A0m(a:Int×Int)(_:Fm)(d:Int):Int×Int:=(IntKind.i64.wrap (a.1+1),max a.2 d)
theorem B6v: ∀(f:Fm) (d:Int) (a:Int×Int),0≤d→d+J9 f≤2000000→0≤a.1→a.1+J9 f≤2000000→foldF A0m f d a=(a.1+J5 f,max a.2 (d+Q0 f-1)):=by
 intro f
 induction f using O1 with
 |h o n l s ks p=>
  intro d a q hd r u;have hw:J9 (.mk o n l s ks)=1+l.t.length+J9.wtL ks:=L7 _;rw[hw]at hd u;have x:IntKind.i64.wrap (d+1)=d+1:=A4 (by omega) (by omega);have i:IntKind.i64.wrap (a.1+1)=a.1+1:=A4 (by omega) (by omega);rw[A17,J5,Q0,x];have key: ∀(m:List Fm),(∀k∈m,k∈ks)→J9.wtL m≤J9.wtL ks→∀a:Int×Int,0≤a.1→a.1+J9.wtL m≤2000000→foldF.foldK A0m m (d+1) a=(a.1+J5.nodesL m,if m= []then a.2 else max a.2 (d+Q0.deepL m)):=by
   intro m
   induction m with
   |nil=>intro _ _ a _ _;simp[foldF.foldK,J5.nodesL]
   |cons f fs j=>
    intro hm hl a y h1;rw[J9.wtL]at hl h1;have hn:=B4g f;rw[foldF.foldK,p f (hm f (D1S ..)) (d+1) a (by omega) (by omega) y (by omega),j (fun k hk=>hm k (D1Z _ hk)) (by omega) _ (by simp only[];omega) (by simp only[];omega),J5.nodesL,Q0.deepL];have h1:1≤Q0 f:=by cases f;rw[Q0];omega
    refine Prod.ext ?_ ?_
    ·show a.1+_+_=a.1+_;push_cast;omega
    ·simp only[reduceCtorEq,if_false];cases fs with
     |nil=>simp only[if_true,Q0.deepL];push_cast;omega
     |cons g fs=>simp only[reduceCtorEq,if_false];push_cast;omega
  show foldF.foldK A0m ks (d+1) (A0m a _ d)=_;rw[key ks (fun _ h=>h) (D1b _) _ (by unfold A0m;simp only[i];omega) (by unfold A0m;simp only[i];omega)];unfold A0m;simp only[i];refine Prod.ext ?_ ?_
  ·show a.1+1+_=a.1+_;push_cast;omega
  ·cases ks with
   |nil=>simp only[if_true,Q0.deepL];push_cast;omega
   |cons g fs=>simp only[reduceCtorEq,if_false];push_cast;omega
def A87(p:Fm→Bool)(a:Bool)(f:Fm)(_:Int):Bool:=a&&p f
theorem B6w(p:Fm→Bool): ∀(f:Fm) (d:Int) (a:Bool),foldF (A87 p) f d a=(a&&J1 p f):=by
 intro f
 induction f using O1 with
 |h o n l s ks j=>
  intro d a;rw[A17,J1];have key: ∀(m:List Fm),(∀k∈m,k∈ks)→∀(e:Int) (a:Bool),foldF.foldK (A87 p) m e a=(a&&J1.allK p m):=by
   intro m
   induction m with
   |nil=>intro _ e a;simp[foldF.foldK,J1.allK]
   |cons f fs i=>
    intro hm e a;rw[foldF.foldK,j f (hm f (D1S ..)),i (fun k hk=>hm k (D1Z _ hk)),J1.allK,Bool.and_assoc]
  show foldF.foldK (A87 p) ks _ (A87 p a _ d)=_;rw[key ks (fun _ h=>h)];unfold A87;rw[Bool.and_assoc]
theorem A3o(p:Fm→Bool)(f:Fm):J1 p f=(p f&&f.ks.all (J1 p)):=by
 cases f with
 |mk o n l s ks=>
  rw[J1]
  congr 1
  show J1.allK p ks=ks.all (J1 p)
  induction ks with
  |nil=>rfl
  |cons f fs h=>rw[J1.allK,h,D2K]
theorem B0l(f:Fm)(d:Nat):(Q0 f≤d)↔1≤d∧∀k∈f.ks,Q0 k≤d-1:=by
 cases f with
 |mk o n l s ks=>
  rw[Q0];have key: ∀(m:List Fm) (e:Nat),Q0.deepL m≤e↔∀k∈m,Q0 k≤e:=by
   intro m e
   induction m with
   |nil=>simp[Q0.deepL]
   |cons f fs h=>rw[Q0.deepL,List.forall_mem_cons,←h];omega
  show _↔1≤d∧∀k∈ks,_;rw[←key];omega
theorem B2G(l m:List Fm):J5.nodesL (l++m)=J5.nodesL l+J5.nodesL m:=by
 induction l with
 |nil=>simp[J5.nodesL]
 |cons f l h=>simp only[D2S,J5.nodesL,h];omega
theorem B4j(l:List Fm)(i:Nat)(h:i<l.length):J5.nodesL (l.take (i+1))=J5.nodesL (l.take i)+J5 l[i]:=by
 rw[D1a h,B2G];simp[J5.nodesL]
def D9:Fm→List ByteArray
 | .mk _ _ l _ ks=>l.t.map (·.v)++intsL ks
where intsL:List Fm→List ByteArray
 | []=>[]
 |f::fs=>D9 f++intsL fs
def D1:Fm→List ByteArray
 | .mk o _ _ s ks=>(if o=3 then [s]else [])++boolsL ks
where boolsL:List Fm→List ByteArray
 | []=>[]
 |f::fs=>D1 f++boolsL fs
theorem B4k(l m:List Fm):D9.intsL (l++m)=D9.intsL l++D9.intsL m:=by
 induction l with
 |nil=>rfl
 |cons f l h=>simp only[D2S,D9.intsL,h,D15]
theorem B2H(l m:List Fm):D1.boolsL (l++m)=D1.boolsL l++D1.boolsL m:=by
 induction l with
 |nil=>rfl
 |cons f l h=>simp only[D2S,D1.boolsL,h,D15]
theorem A6Z(l:List Fm)(i:Nat)(h:i<l.length):D9.intsL (l.take (i+1))=D9.intsL (l.take i)++D9 l[i]:=by
 rw[D1a h,B4k];simp[D9.intsL]
theorem A4c(l:List Fm)(i:Nat)(h:i<l.length):D1.boolsL (l.take (i+1))=D1.boolsL (l.take i)++D1 l[i]:=by
 rw[D1a h,B2H];simp[D1.boolsL]
theorem B0m(f:Fm):(D9 f).length+(D1 f).length≤J9 f:=by
 induction f using O1 with
 |h o n l s ks i=>
  rw[D9,D1,J9];have key: ∀m:List Fm,(∀k∈m,(D9 k).length+(D1 k).length≤J9 k)→(D9.intsL m).length+(D1.boolsL m).length≤J9.wtL m:=by
   intro m
   induction m with
   |nil=>intro _;simp[D9.intsL,D1.boolsL]
   |cons f fs i=>intro h;rw[D9.intsL,D1.boolsL,J9.wtL,D1N,D1N];have:=i (fun k hk=>h k (D1Z _ hk));have:=h f (D1S ..);omega
  have:=key ks i;simp only[D1N,D10];split<;>simp<;>omega
theorem B4l{f:Fm}(h:FmFit f): ∀s∈D9 f,s.size≤140737488351232:=by
 induction f using O1 with
 |h o n l s ks j=>
  rw[D9];intro x hx;rcases D1h.1 hx with hx|hx
  ·obtain⟨t,ht,rfl⟩:=D2F.1 hx;exact h.lin.str t ht
  ·have key: ∀m:List Fm,(∀k∈m,k∈ks)→∀s∈D9.intsL m,s.size≤140737488351232:=by
    intro m
    induction m with
    |nil=>intro _ s hs;cases hs
    |cons f fs i=>
     intro hm s hs;rcases D1h.1 hs with hs|hs
     ·exact j f (hm f (D1S ..)) (h.kid (hm f (D1S ..))) s hs
     ·exact i (fun k hk=>hm k (D1Z _ hk)) s hs
   exact key ks (fun _ h=>h) x hx
theorem B2I{f:Fm}(h:FmFit f): ∀s∈D1 f,s.size≤140737488351232:=by
 induction f using O1 with
 |h o n l s ks j=>
  rw[D1];intro x hx;rcases D1h.1 hx with hx|hx
  ·split at hx
   ·rw[D1i]at hx;subst hx;exact h.txt
   ·cases hx
  ·have key: ∀m:List Fm,(∀k∈m,k∈ks)→∀s∈D1.boolsL m,s.size≤140737488351232:=by
    intro m
    induction m with
    |nil=>intro _ s hs;cases hs
    |cons f fs i=>
     intro hm s hs;rcases D1h.1 hs with hs|hs
     ·exact j f (hm f (D1S ..)) (h.kid (hm f (D1S ..))) s hs
     ·exact i (fun k hk=>hm k (D1Z _ hk)) s hs
   exact key ks (fun _ h=>h) x hx
theorem B0n: ∀(f:Fm) (p:List ByteArray×List ByteArray),A0k f p=((D9 f).foldl Q5 p.1,(D1 f).foldl Q5 p.2):=by
 intro f
 induction f using O1 with
 |h o n l s ks j=>
  rintro⟨a,b⟩;rw[A0k,D9,D1];have key: ∀m:List Fm,(∀k∈m,k∈ks)→∀p,A0k.namesK m p=((D9.intsL m).foldl Q5 p.1,(D1.boolsL m).foldl Q5 p.2):=by
   intro m
   induction m with
   |nil=>intro _ p;rfl
   |cons f fs i=>
    intro hm p;rw[A0k.namesK,i (fun k hk=>hm k (D1Z _ hk)),j f (hm f (D1S ..)),D9.intsL,D1.boolsL,D19,D19]
  rw[key ks (fun _ h=>h),D19,D19];refine Prod.ext rfl ?_;show List.foldl Q5 (if o=3 then Q5 b s else b) _=_;split<;>rfl
noncomputable def A5O(a:List ByteArray×List ByteArray)(f:Fm)(_:Int):List ByteArray×List ByteArray:=((f.l.t.map (·.v)).foldl I7 a.1,if f.op=3 then I7 a.2 f.s else a.2)
theorem B6x: ∀(f:Fm) (d:Int) (p:List ByteArray×List ByteArray),foldF A5O f d p=((D9 f).foldl I7 p.1,(D1 f).foldl I7 p.2):=by
 intro f
 induction f using O1 with
 |h o n l s ks j=>
  rintro d ⟨a,b⟩;rw[A17,D9,D1];have key: ∀m:List Fm,(∀k∈m,k∈ks)→∀(e:Int) p,foldF.foldK A5O m e p=((D9.intsL m).foldl I7 p.1,(D1.boolsL m).foldl I7 p.2):=by
   intro m
   induction m with
   |nil=>intro _ e p;rfl
   |cons f fs i=>
    intro hm e p;rw[foldF.foldK,i (fun k hk=>hm k (D1Z _ hk)),j f (hm f (D1S ..)),D9.intsL,D1.boolsL,D19,D19]
  show foldF.foldK A5O ks _ _=_;rw[key ks (fun _ h=>h),D19,D19];refine Prod.ext rfl ?_;show List.foldl I7 (if o=3 then I7 b s else b) _=_;split<;>rfl
def upS(l:List ByteArray):List ByteArray:=l.foldl Q5 []
theorem A88(l:List ByteArray):(upS l).Pairwise fun x y=>q9 x y=true:=B0L _ _ .nil
theorem T7(l:List ByteArray)(x:ByteArray):x∈upS l↔x∈l:=by unfold upS;rw[A7h];simp
noncomputable def J2(l:List ByteArray):List ByteArray:=l.foldl I7 []
theorem A1W(l:List ByteArray):(J2 l).Nodup:=U7 _ _ List.nodup_nil
theorem F6(l:List ByteArray)(x:ByteArray):x∈J2 l↔x∈l:=by unfold J2;rw[Go.Lin.A7r];simp
theorem B6y{l:List ByteArray}(h:l.Pairwise fun x y=>q9 x y=true):l.Nodup:=h.imp fun {a b} g e=>by subst e;rw[s8]at g;cases g
theorem A3p(l:List ByteArray):(J2 l).length=(upS l).length:=((List.perm_ext_iff_of_nodup (A1W l) (B6y (A88 l))).2 fun x=>by rw[F6,T7]).length_eq
theorem A5a(l:List ByteArray):(J2 l).length≤l.length:=by have:=A7s l [];simpa [J2]using this
theorem A3q(l m:List ByteArray):meetL l m=true↔∃x,x∈l∧x∈m:=by
 unfold meetL;simp only[List.any_eq_true,D1d];constructor
 ·rintro⟨x,hx,y,h,rfl⟩;exact⟨x,hx,h⟩
 ·rintro⟨x,hx,h⟩;exact⟨x,hx,x,h,rfl⟩
theorem A0L{l m l' m':List ByteArray}(h1: ∀x,x∈l↔x∈l')(h: ∀x,x∈m↔x∈m'):meetL l m=meetL l' m':=by
 rw[Bool.eq_iff_iff,A3q,A3q];exact exists_congr fun x=>by rw[h1,h]
def ivF(f:Fm):List ByteArray:=upS (D9 f)
def bvF(f:Fm):List ByteArray:=upS (D1 f)
theorem B2J(f:Fm):A0k f ([],[])=(ivF f,bvF f):=B0n f _
theorem A2a(f:Fm):D8 f=(J1 E3 f&&decide (Q0 f≤60)&&decide (J5 f≤200)&& !meetL (ivF f) (bvF f)&&decide ((ivF f).length+(bvF f).length≤12)):=by
 unfold D8;rw[B2J]
@[go_sem] theorem Z0(o n:Int)(l:LinV)(s:ByteArray)(ks:List Fm):C1 (.mk o n l s ks)= [.int .i64 o,.int .i64 n,.sl 2 (Rw J7 l.t),.int .i64 l.k,.bool l.e,.str s,.sl 7 (Rw C1 ks)]:=I6 _
@[go_sem] theorem B9y(f:Fm):(C1 f).length=7:=by rw[I6];rfl
@[go_sem] theorem C7Q(f:Fm):(C1 f).take 7=C1 f:=by rw[I6];rfl
theorem B9z(f:Fm):(C1 f).all D.one=true:=by rw[I6];rfl
attribute [go_sem] B9z
@[go_sem] theorem D0h(f:Fm):(C1 f).head?=some (.int .i64 f.op):=by rw[I6];rfl
@[go_sem] theorem D0i(f:Fm):((C1 f).drop 1).head?=some (.int .i64 f.n):=by rw[I6];rfl
@[go_sem] theorem D0j(f:Fm):((C1 f).drop 2).head?=some (.sl 2 (Rw J7 f.l.t)):=by rw[I6];rfl
@[go_sem] theorem D0k(f:Fm):((C1 f).drop 3).head?=some (.int .i64 f.l.k):=by rw[I6];rfl
@[go_sem] theorem D0l(f:Fm):((C1 f).drop 4).head?=some (.bool f.l.e):=by rw[I6];rfl
@[go_sem] theorem D0m(f:Fm):((C1 f).drop 5).head?=some (.str f.s):=by rw[I6];rfl
@[go_sem] theorem D0n(f:Fm):((C1 f).drop 6).head?=some (.sl 7 (Rw C1 f.ks)):=by rw[I6];rfl
@[go_sem] theorem D0o(f:Fm):((C1 f).drop 2).take 3=E8 f.l:=by rw[I6];rfl
@[go_sem] theorem B90(a b c d e f g:D)(t:Fm):P4 [a,b,c,d,e,f,g] 0 (C1 t)=C1 t:=by rw[I6];rfl
theorem B0o{j m o p q r u x y:D}(z:NilR o p)(A:NilR x y):NilR (.agg [j,m,o,q,r,u,x]) (.agg [j,m,p,q,r,u,y]):=by
 refine .agg _ _ rfl fun i d d' h1 h=>?_
 match i with
 |0=>cases h1;cases h;exact .same _
 |1=>cases h1;cases h;exact .same _
 |2=>cases h1;cases h;exact z
 |3=>cases h1;cases h;exact .same _
 |4=>cases h1;cases h;exact .same _
 |5=>cases h1;cases h;exact .same _
 |6=>cases h1;cases h;exact A
 |i+7=>cases h1
theorem C3u{x y z:D}(h:NilR x y):NilR (.tuple [x,z]) (.tuple [y,z]):=by
 refine .tuple _ _ rfl fun i d d' h1 j=>?_
 match i with
 |0=>cases h1;cases j;exact h
 |1=>cases h1;cases j;exact .same _
 |i+2=>cases h1
theorem A4d(o n k:Int)(e:Bool)(s:ByteArray):NilR (.agg [.int .i64 o,.int .i64 n,.nilsl,.int .i64 k,.bool e,.str s,.nilsl]) (.agg (C1 (.mk o n ⟨[],k,e⟩ s []))):=by
 rw[Z0];exact B0o (.nil 2) (.nil 7)
theorem B2K(o n k:Int)(e:Bool)(s:ByteArray)(ks:List Fm):NilR (.agg [.int .i64 o,.int .i64 n,.nilsl,.int .i64 k,.bool e,.str s,.sl 7 (Rw C1 ks)]) (.agg (C1 (.mk o n ⟨[],k,e⟩ s ks))):=by
 rw[Z0];exact B0o (.nil 2) (.same _)
theorem C3v(o n:Int)(l:LinV)(s:ByteArray):NilR (.agg [.int .i64 o,.int .i64 n,.sl 2 (Rw J7 l.t),.int .i64 l.k,.bool l.e,.str s,.nilsl]) (.agg (C1 (.mk o n l s []))):=by
 rw[Z0];exact B0o (.same _) (.nil 7)
theorem fz7{b sz:Nat}{es:List (List D)}{j m o p q r u x y:D}(z:Fz b sz es o p)(A:Fz b sz es x y): ∀(i:Nat) d d',[j,m,o,q,r,u,x][i]? =some d→[j,m,p,q,r,u,y][i]? =some d'→Fz b sz es d d':=by
 intro i d d' h1 h
 match i with
 |0=>cases h1;cases h;exact .same _
 |1=>cases h1;cases h;exact .same _
 |2=>cases h1;cases h;exact z
 |3=>cases h1;cases h;exact .same _
 |4=>cases h1;cases h;exact .same _
 |5=>cases h1;cases h;exact .same _
 |6=>cases h1;cases h;exact A
 |i+7=>cases h1
theorem A9A{Q:D→Heap→Prop}{H:Heap}{n:Nat}{ob:Option Nat}{o m k:Int}{e:Bool}{s:ByteArray}{ks:List Fm}(hn:n=ks.length)(ho:OutAt H 7 (Rw C1 ks) ob)(h:Fin Q (.agg (C1 (.mk o m ⟨[],k,e⟩ s ks))) (I3 H ob)):
  Fin Q (.agg [.int .i64 o,.int .i64 m,.nilsl,.int .i64 k,.bool e,.str s,H8 7 n ob]) H:=by
 rw[Z0]at h;cases ob with
 |none=>
  have i:Rw C1 ks= []:=ho;refine E5 ?_ h;rw[i];exact B0o (.nil 2) (.nil 7)
 |some b=>
  have hb:H b=some (.vec 7 (Rw C1 ks)):=ho;subst hn;refine R0 (cs':=[.int .i64 o,.int .i64 m,.sl 2 [],.int .i64 k,.bool e,.str s,.sl 7 (Rw C1 ks)]) hb rfl (fz7 (.nil 2) ?_) h;show Fz b 7 (Rw C1 ks) (.vec b 7 0 ks.length) _;have:=Fz.all (b:=b) (sz:=7) (es:=Rw C1 ks);rwa [D6]at this
theorem B91{H:Heap}{n:Nat}{ob:Option Nat}{o m k:Int}{e:Bool}{s:ByteArray}{ks:List Fm}(hn:n=ks.length)(ho:OutAt H 7 (Rw C1 ks) ob):
  View H (.agg [.int .i64 o,.int .i64 m,.nilsl,.int .i64 k,.bool e,.str s,H8 7 n ob]) (.agg (C1 (.mk o m ⟨[],k,e⟩ s ks))):=by
 rw[Z0];refine .agg _ _ rfl fun i d d' h1 h=>?_
 match i with
 |0=>cases h1;cases h;exact .same _
 |1=>cases h1;cases h;exact .same _
 |2=>cases h1;cases h;exact .nil 2
 |3=>cases h1;cases h;exact .same _
 |4=>cases h1;cases h;exact .same _
 |5=>cases h1;cases h;exact .same _
 |6=>
  cases h1;cases h;cases ob with
  |none=>rw[show Rw C1 ks= []from ho];exact .nil 7
  |some b=>exact .vec b 7 n _ _ ho (by rw[D6];exact hn) rfl (fun i e e' h1 h=>by rw[h1]at h;cases h;rfl) (fun i e e' j d d' h1 h q p=>by rw[h1]at h;cases h;rw[q]at p;cases p;exact .same _)
 |i+7=>cases h1
end Go.Fo
namespace Go.Av
theorem B0p{P:Program}{c:CR}{bl:Bl}{ev:Operand→D}{H:Heap}{p:D→Heap→Prop}{s x:Operand}{t O:Nat}(e j:Nat){sz n m bx:Nat}{ob:Option Nat}{es xs:List (List D)}
  (T:G6 P t=some (e,sz,j)) (U:0<sz) (h1:apT (C7 P O)) (V:apZ (G4 P e) sz) (hs:ev s=H8 sz n ob) (hx:ev x= .vec bx sz 0 m) (r:H bx=some (.vec sz xs)) (hm:m=xs.length) (W:xs≠[])
  (o:OutAt H sz es ob) (hn:n=es.length) (u:bx∉bl.l) (z:ob≠some bx) (A: ∀c,ob=some c→c∉bl.l)
  (G:(n+xs.length)*j≤140737488355328) (I:n+xs.length≤9223372036854775807)
  (h: ∀b',I3 (H.del bx) ob b'=none→p (.vec b' sz 0 (n+xs.length)) ((I3 (H.del bx) ob).set b' (.vec sz (es++xs)))):pOp P c bl ev H p (.call ⟨.builtin .append,#[s,x],#[t,O]⟩):=by
 refine B0K ?_;rw[T,B6L];refine⟨U,h1,V,?_⟩;have J:M7 H sz (ev x)=some xs:=by
  rw[hx];unfold M7;simp[r,hm]
 have ho:S1 bl.l [bx]= [bx]:=by rw[B0J bx [] u,A0D]
 have y:xOk bl H [bx]:=B3G bx _ r rfl (.inl u);rw[J,B6K,hs,hx];show paS _ bl [bx] sz j xs H p;cases ob with
 |none=>
  have X:es= []:=o;subst X;subst hn;simp only[D1O,Nat.zero_add,D2T]at G I h;show paS .nilsl bl [bx] sz j xs H p;rw[B9b];refine⟨G,I,by cases xs<;>simp_all,y,fun b hb=>?_⟩;rw[ho,A1P,G1];refine h b ?_;show (H.del bx) b=none;unfold Heap.del;rw[ho]at hb;rcases hb with hb|hb
  ·split<;>simp_all
  ·simp at hb;rw[if_pos hb]
 |some k=>
  have hk:H k=some (.vec sz es):=o;have Y:k≠bx:=fun e=>z (by rw[e]);show paS (.vec k sz 0 n) bl [bx] sz j xs H p;rw[B9c,hk,B9a];refine⟨rfl,rfl,rfl,by omega,G,I,.inl (A k rfl),y,fun b' i=>?_⟩;rw[ho,D1W (by omega),A1P,A1P,G1];have M:(H.del k).del bx=(H.del bx).del k:=by funext q;simp only[Heap.del];split<;>split<;>rfl
  rw[M];refine h b' ?_;show ((H.del bx).del k) b'=none;rw[ho]at i;simp only[Heap.del];rcases i with i|i
  ·split
   ·rfl
   ·split
    ·rfl
    ·exact i
  ·simp at i;rcases i with i|i
   ·rw[if_pos i]
   ·split
    ·rfl
    ·first|rfl|rw[if_pos i]
end Go.Av
namespace Go.Fo
open Go Go.Av Go.Lexs Go.Lin
structure AH(sz:Nat)(Cs:Heap)(bx:Nat)(ac:D→List D)(es:List (List D))(n:Nat)(ob:Option Nat)(Hp:Heap):Prop where
 box:Hp bx=some (.box (ac (H8 sz n ob)))
 out:OutAt Hp sz es ob
 keep: ∀q o,q≠bx→Cs q=some o→Hp q=some o
 fresh: ∀b,ob=some b→Cs b=none∧b≠bx
theorem A2F{sz:Nat}{Cs:Heap}{bx:Nat}{ac:D→List D}(h:Cs bx=some (.box (ac .nilsl))):AH sz Cs bx ac [] 0 none Cs:=⟨h,rfl,fun _ _ _ h=>h,fun _ e=>by cases e⟩
theorem AH.ne7{sz:Nat}{Cs:Heap}{bx:Nat}{ac:D→List D}{es:List (List D)}{n:Nat}{ob:Option Nat}{Hp:Heap}(h:AH sz Cs bx ac es n ob Hp){b:Nat}(hb:Hp b=none):bx≠b:=fun e=>by rw[←e,h.box]at hb;cases hb
theorem AH.at7{sz:Nat}{Cs:Heap}{bx:Nat}{ac:D→List D}{es:List (List D)}{n:Nat}{ob:Option Nat}{Hp:Heap}(h:AH sz Cs bx ac es n ob Hp){b:Nat}(hb:Hp b=none)(o:Av.Obj):(Hp.set b o) bx=some (.box (ac (H8 sz n ob)))∧(Hp.set b o) b=some o∧OutAt (Hp.set b o) sz es ob∧∀c,ob=some c→c≠b:=by
 refine⟨by rw[A2 _ (h.ne7 hb)];exact h.box,A3 _ _,?_,fun c e g=>?_⟩
 ·cases ob with
  |none=>exact h.out
  |some c=>
   have hc:Hp c=some _:=h.out;have:c≠b:=fun e=>by rw[e,hb]at hc;cases hc
   show (Hp.set b o) c=_;rw[A2 _ this];exact hc
 ·subst e;have hc:Hp c=some _:=h.out;rw[g,hb]at hc;cases hc
theorem AH.step{sz:Nat}{Cs:Heap}{bx:Nat}{ac:D→List D}{es:List (List D)}{n:Nat}{ob:Option Nat}{Hp:Heap}(h:AH sz Cs bx ac es n ob Hp){b i:Nat}(hb:Hp b=none)(o:Av.Obj)(m:I3 (Hp.set b o) ob i=none)(c:List D):
  i≠bx∧((I3 (Hp.set b o) ob).set i (.vec sz (es++[c]))) bx=some (.box (ac (H8 sz n ob)))∧AH sz Cs bx ac (es++[c]) (n+1) (some i) (((I3 (Hp.set b o) ob).set i (.vec sz (es++[c]))).set bx (.box (ac (.vec i sz 0 (n+1))))):=by
 obtain⟨y,A,G,I⟩:=h.at7 hb o;have z:I3 (Hp.set b o) ob bx=some (.box (ac (H8 sz n ob))):=by
  cases ob with
  |none=>exact y
  |some q=>
   have:=(h.fresh q rfl).2;show Heap.del _ q bx=_;rw[D0 this.symm];exact y
 have j:i≠bx:=fun e=>by rw[e,z]at m;cases m
 have hk: ∀q o',q≠bx→Cs q=some o'→I3 (Hp.set b o) ob q=some o':=fun q o' hq p=>by
  have h1:=h.keep q o' hq p;have u:q≠b:=fun e=>by rw[e,hb]at h1;cases h1
  cases ob with
  |none=>show (Hp.set b o) q=_;rw[A2 _ u];exact h1
  |some r=>
   have x:q≠r:=fun e=>by have:=(h.fresh r rfl).1;rw[←e,p]at this;cases this
   show Heap.del _ r q=_;rw[D0 x,A2 _ u];exact h1
 refine⟨j,by rw[A2 _ j.symm];exact z,A3 _ _,?_,fun q o' hq p=>?_,fun q e=>?_⟩
 ·show (Heap.set _ bx _) i=_;rw[A2 _ j];exact A3 _ _
 ·have h1:=hk q o' hq p;have u:q≠i:=fun e=>by rw[e,m]at h1;cases h1
  rw[A2 _ hq,A2 _ u];exact h1
 ·cases e;refine⟨?_,j⟩;cases g:Cs i with
  |none=>rfl
  |some o'=>have:=hk i o' j g;rw[m]at this;cases this
theorem AH.more{sz:Nat}{Cs:Heap}{bx:Nat}{ac:D→List D}{es:List (List D)}{n:Nat}{ob:Option Nat}{Hp:Heap}(h:AH sz Cs bx ac es n ob Hp){b:Nat}(hb:Hp b=none)(o:Av.Obj):AH sz Cs bx ac es n ob (Hp.set b o):=by
 obtain⟨j,p,m,r⟩:=h.at7 hb o;refine⟨j,m,fun q o' hq i=>?_,h.fresh⟩;have h1:=h.keep q o' hq i;have:q≠b:=fun e=>by rw[e,hb]at h1;cases h1
 rw[A2 _ this];exact h1
theorem AH.le{sz:Nat}{Cs H:Heap}{bx:Nat}{ac:D→List D}{es:List (List D)}{n:Nat}{ob:Option Nat}{Hp:Heap}(h:AH sz Cs bx ac es n ob Hp)(i:H.Le Cs)(hx:H bx=none):H.Le (I3 Hp ob):=fun k o hk=>by
 have j:k≠bx:=fun e=>by rw[e,hx]at hk;cases hk
 have h1:=h.keep k o j (i _ _ hk);cases ob with
 |none=>exact h1
 |some c=>
  have:k≠c:=fun e=>by have:=(h.fresh c rfl).1;rw[←e,i _ _ hk]at this;cases this
  show Heap.del _ c k=_;rw[D0 this];exact h1
theorem AH.le2{sz:Nat}{Cs H:Heap}{bx j:Nat}{ac:D→List D}{es:List (List D)}{n:Nat}{ob:Option Nat}{Hp:Heap}(h:AH sz Cs bx ac es n ob Hp)(i:H.Le Cs)(hx:H bx=none)(r:H j=none)(o:Av.Obj):H.Le (I3 (Hp.set j o) ob):=fun k q hk=>by
 have m:k≠j:=fun e=>by rw[e,r]at hk;cases hk
 have h1:=h.le i hx _ _ hk;cases ob with
 |none=>show (Hp.set j o) k=_;rw[A2 _ m];exact h1
 |some c=>
  have p:k≠c:=fun e=>by have:=(h.fresh c rfl).1;rw[←e,i _ _ hk]at this;cases this
  have h1:Heap.del Hp c k=some q:=h1;rw[D0 p]at h1;show Heap.del _ c k=_;rw[D0 p,A2 _ m];exact h1
theorem AH.out2{sz:Nat}{Cs:Heap}{bx i:Nat}{ac:D→List D}{es:List (List D)}{n:Nat}{ob:Option Nat}{Hp:Heap}(h:AH sz Cs bx ac es n ob Hp){j:Av.Obj}(m:Cs i=some j)(o:Av.Obj):OutAt (Hp.set i o) sz es ob:=by
 cases ob with
 |none=>exact h.out
 |some c=>
  have:c≠i:=fun e=>by have:=(h.fresh c rfl).1;rw[e,m]at this;cases this
  show (Hp.set i o) c=_;rw[A2 _ this];exact h.out
theorem A5b{H:Heap}{sz:Nat}{es:List (List D)}{ob:Option Nat}(h:OutAt H sz es ob){x:Nat}(hx:H x=none)(o:Av.Obj):OutAt (H.set x o) sz es ob∧ob≠some x:=by
 cases ob with
 |none=>exact⟨h,by simp⟩
 |some c=>
  have hc:H c=some _:=h;have:c≠x:=fun e=>by rw[e,hx]at hc;cases hc
  refine⟨?_,fun e=>this (by injection e)⟩;show (H.set x o) c=_;rw[A2 _ this];exact hc
theorem B3W{H:Heap}{b:Nat}{o:Av.Obj}(h:H b=some o):H.set b o=H:=by
 funext k
 unfold Av.Heap.set;by_cases e:k=b
 ·subst e;rw[if_pos rfl,h]
 ·rw[if_neg e]
theorem C3w{Q:D→Heap→Prop}{H:Heap}{n:Nat}{ob:Option Nat}{l:LinV}(hn:n=l.t.length)(ho:OutAt H 2 (Rw J7 l.t) ob)(h:Fin Q (.agg (E8 l)) (I3 H ob)):Fin Q (.agg [H8 2 n ob,.int .i64 l.k,.bool l.e]) H:=by
 have m: ∀(i:Nat) d d',[D.int .i64 l.k,.bool l.e][i]? =some d→[D.int .i64 l.k,.bool l.e][i]? =some d'→d=d':=fun i d d' h1 j=>by rw[h1]at j;injection j
 cases ob with
 |none=>
  have o:Rw J7 l.t= []:=ho;rw[B17,o]at h;refine E5 (d':=.agg [.sl 2 [],.int .i64 l.k,.bool l.e]) (.agg _ _ rfl fun i d d' h1 j=>?_) h
  match i with
  |0=>cases h1;cases j;exact .nil 2
  |i+1=>
   simp only[D1n]at h1 j;rw[m i d d' h1 j];exact .same _
 |some b=>
  have hb:H b=some (.vec 2 (Rw J7 l.t)):=ho;subst hn;refine R0 (cs':=E8 l) hb rfl (fun i d d' h1 j=>?_) h
  match i with
  |0=>
   cases h1;cases j;show Fz b 2 (Rw J7 l.t) (.vec b 2 0 l.t.length) _;have:=Fz.all (b:=b) (sz:=2) (es:=Rw J7 l.t);rwa [D6]at this
  |i+1=>
   simp only[B17,D1n]at h1 j;rw[m i d d' h1 j];exact .same _
theorem B6z(f:Fm):(C1 f).set 2 (.sl 2 (Rw J7 f.l.t))=C1 f:=by rw[I6];rfl
theorem B60(f:Fm)(x:D):(C1 f).set 6 x= [.int .i64 f.op,.int .i64 f.n,.sl 2 (Rw J7 f.l.t),.int .i64 f.l.k,.bool f.l.e,.str f.s,x]:=by rw[I6];rfl
abbrev ac6(f:Fm)(x:D):List D:=[.int .i64 f.op,.int .i64 f.n,.sl 2 (Rw J7 f.l.t),.int .i64 f.l.k,.bool f.l.e,.str f.s,x]
theorem C3x{Q:D→Heap→Prop}{H:Heap}{n:Nat}{ob:Option Nat}{f:Fm}{ks:List Fm}(hn:n=ks.length)(ho:OutAt H 7 (Rw C1 ks) ob)(h:Fin Q (.agg (C1 (.mk f.op f.n f.l f.s ks))) (I3 H ob)):Fin Q (.agg (ac6 f (H8 7 n ob))) H:=by
 rw[Z0]at h;cases ob with
 |none=>
  have i:Rw C1 ks= []:=ho;refine E5 ?_ h;rw[i];exact B0o (.same _) (.nil 7)
 |some b=>
  have hb:H b=some (.vec 7 (Rw C1 ks)):=ho;subst hn;refine R0 (cs':=ac6 f (.sl 7 (Rw C1 ks))) hb rfl (fz7 (.same _) ?_) h;show Fz b 7 (Rw C1 ks) (.vec b 7 0 ks.length) _;have:=Fz.all (b:=b) (sz:=7) (es:=Rw C1 ks);rwa [D6]at this
theorem Tr.held{H:Heap}{f:Fm}{d:List D}{B:List Nat}(h:Tr H f d B): ∀b∈B,H b≠none:=fun b hb e=>by
 obtain⟨o,h1,_⟩:=h.loose.2 b hb;rw[e]at h1;cases h1
theorem A3r{H:Heap}: ∀{ks:List Fm} {rows:List (List D)} {bs:List Nat},Tr.trK H ks rows bs→∀b∈bs,H b≠none:=by
 intro ks
 induction ks with
 |nil=>intro rows bs h;rw[Tr.trK]at h;rw[h.2];simp
 |cons f fs i=>
  intro rows bs h;rw[Tr.trK]at h;obtain⟨r,o,b,p,rfl,rfl,j,m⟩:=h;exact fun x hx=>(D1h.1 hx).elim (j.held x) (i m x)
theorem Tr.nodup{H:Heap}{f:Fm}{d:List D}{B:List Nat}(h:Tr H f d B):B.Nodup:=by
 obtain⟨o,n,l,s,ks⟩:=f;rw[Tr]at h;obtain⟨_,_,_,_,_,_,_,_,_,_,_,h⟩:=h;exact h
theorem Tr.row{H:Heap}{f:Fm}{d:List D}{B:List Nat}(h:Tr H f d B): ∃td kd,d= [.int .i64 f.op,.int .i64 f.n,td,.int .i64 f.l.k,.bool f.l.e,.str f.s,kd]∧td.one=true∧kd.one=true:=by
 obtain⟨o,n,l,s,ks⟩:=f;rw[Tr]at h;obtain⟨td,kd,tb,kb,rows,bs,h1,i,j,_⟩:=h;have one: ∀{sz:Nat} {es:List (List D)} {x:D} {q:List Nat},SlAt H sz es x q→x.one=true:=fun h=>by
  rcases h with⟨_,_,rfl|rfl⟩|⟨b,rfl,_⟩<;>rfl
 exact⟨td,kd,h1,one i,one j⟩
structure TrR(ex:List Nat)(Cs:Heap)(ks:List Fm)(rows:List (List D))(bs:List Nat)(ob:Option Nat)(Hp:Heap):Prop where
 out:OutAt Hp 7 rows ob
 tr:Tr.trK Hp ks rows bs
 nd:bs.Nodup
 new: ∀b∈bs,Cs b=none
 obn: ∀c,ob=some c→Cs c=none∧c∉bs
 keep: ∀q o,q∉ex→Cs q=some o→Hp q=some o
 dom: ∀q,Hp q=none→Cs q=none
theorem A4t(ex:List Nat)(Cs:Heap):TrR ex Cs [] [] [] none Cs:=⟨rfl,by rw[Tr.trK];exact⟨rfl,rfl⟩,List.nodup_nil,by simp,fun _ e=>(by cases e),fun _ _ _ h=>h,fun _ h=>h⟩
theorem TrR.step{ex:List Nat}{Cs Hp U j:Heap}{ks:List Fm}{rows:List (List D)}{bs B:List Nat}{ob:Option Nat}{k:Fm}{d:List D}{x i:Nat}(T:TrR ex Cs ks rows bs ob Hp)(hq:Hp.Le U)
  (ht:Tr j k d B) (hB: ∀b∈B,U b=none) (W: ∀b,b∉B→j b=U b) (hx:j x=none) (r:I3 (j.set x (.vec 7 [d])) ob i=none):
  TrR ex Cs (ks++[k]) (rows++[d]) (bs++B) (some i) ((I3 (j.set x (.vec 7 [d])) ob).set i (.vec 7 (rows++[d]))):=by
 have y: ∀q o,Hp q=some o→j q=some o:=fun q o h=>by
  rw[W q (fun m=>by have:=hB q m;rw[hq q o h]at this;cases this)];exact hq q o h
 --what neither is the old row nor new
 have I: ∀q o,ob≠some q→j q=some o→((I3 (j.set x (.vec 7 [d])) ob).set i (.vec 7 (rows++[d]))) q=some o:=fun q o u h=>by
  have n1:q≠x:=fun e=>by rw[e,hx]at h;cases h
  have M:I3 (j.set x (.vec 7 [d])) ob q=some o:=by
   cases ob with
   |none=>show (j.set x _) q=_;rw[A2 _ n1];exact h
   |some c=>
    have:q≠c:=fun e=>u (by rw[e]);show Heap.del _ c q=_;rw[D0 this,A2 _ n1];exact h
  have n2:q≠i:=fun e=>by rw[e,r]at M;cases M
  rw[A2 _ n2];exact M
 have O: ∀b∈bs,ob≠some b:=fun b hb e=>(T.obn b e).2 hb;have J: ∀b∈B,ob≠some b:=fun b hb e=>by
  subst e;have h1:Hp b=some _:=T.out;have:=hB b hb;rw[hq b _ h1]at this;cases this
 have same: ∀b∈bs++B,((I3 (j.set x (.vec 7 [d])) ob).set i (.vec 7 (rows++[d]))) b=j b:=fun b hb=>by
  have z:j b≠none∧ob≠some b:=(D1h.1 hb).elim (fun h=>⟨by
   cases ho:Hp b with
   |none=>exact absurd ho (A3r T.tr b h)
   |some o=>rw[y b o ho];simp,O b h⟩) fun h=>⟨ht.held b h,J b h⟩
  cases ho:j b with
  |none=>exact absurd ho z.1
  |some o=>exact I b o z.2 ho
 have dis: ∀b∈bs,b∉B:=fun b h1 M=>by
  cases ho:Hp b with
  |none=>exact A3r T.tr b h1 ho
  |some o=>have:=hB b M;rw[hq b o ho]at this;cases this
 have G: ∀q o,ob≠some q→j q=some o→i≠q:=fun q o u h e=>by
  have n1:q≠x:=fun e=>by rw[e,hx]at h;cases h
  rw[e]at r;cases ob with
  |none=>rw[show I3 (j.set x (.vec 7 [d])) none q=(j.set x (.vec 7 [d])) q from rfl,A2 _ n1,h]at r;cases r
  |some c=>
   have:q≠c:=fun e=>u (by rw[e]);rw[show I3 (j.set x (.vec 7 [d])) (some c) q=Heap.del (j.set x (.vec 7 [d])) c q from rfl,D0 this,A2 _ n1,h]at r;cases r
 refine⟨A3 _ _,?_,?_,fun b hb=>?_,fun c e=>?_,fun q o V u=>?_,fun q h=>?_⟩
 ·have X:Tr.trK j ks rows bs:=A1y T.tr fun b hb=>by
   rw[W b (dis b hb)];cases ho:Hp b with
   |none=>exact absurd ho (A3r T.tr b hb)
   |some o=>exact hq b o ho
  exact A1y (B6R ht X) same
 ·exact List.nodup_append.2 ⟨T.nd,ht.nodup,fun a Y b hb e=>dis a Y (by rw[e];exact hb)⟩
 ·rcases D1h.1 hb with h|h
  ·exact T.new b h
  ·exact T.dom b (hq.none (hB b h))
 ·cases e;by_cases A:ob=some i
  ·refine⟨(T.obn i A).1,fun hm=>?_⟩;rcases D1h.1 hm with h|h
   ·exact(T.obn i A).2 h
   ·exact J i h A
  refine⟨T.dom _ ?_,fun hm=>?_⟩
  ·cases ho:Hp i with
   |none=>rfl
   |some o=>exact absurd rfl (G i o A (y i o ho))
  ·have z:j i≠none∧ob≠some i:=(D1h.1 hm).elim (fun h=>⟨by
    cases ho:Hp i with
    |none=>exact absurd ho (A3r T.tr i h)
    |some o=>rw[y i o ho];simp,O i h⟩) fun h=>⟨ht.held i h,J i h⟩
   cases ho:j i with
   |none=>exact z.1 ho
   |some o=>exact G i o z.2 ho rfl
 ·have h1:=y q o (T.keep q o V u);exact I q o (fun e=>by have:=(T.obn q e).1;rw[u]at this;cases this) h1
 ·cases ho:Cs q with
  |none=>rfl
  |some o=>
   cases hp:Hp q with
   |none=>rw[T.dom q hp]at ho;cases ho
   |some p=>
    have:=I q p (fun e=>by have:=(T.obn q e).1;rw[ho]at this;cases this) (y q p hp);rw[h]at this;cases this
theorem TrR.out1{ex:List Nat}{Cs Hp i h:Heap}{ks:List Fm}{rows:List (List D)}{bs B:List Nat}{ob:Option Nat}{x:Nat}(T:TrR ex Cs ks rows bs ob Hp)(hq:Hp.Le i)(hB: ∀b∈B,i b=none)(p: ∀b,b∉B→h b=i b)(hx:h x=none)(o:Av.Obj):OutAt (h.set x o) 7 rows ob:=by
 cases ob with
 |none=>exact T.out
 |some c=>
  have h1:Hp c=some _:=T.out;have j:h c=some (.vec 7 rows):=by
   rw[p c (fun m=>by have:=hB c m;rw[hq c _ h1]at this;cases this)];exact hq c _ h1
  have:c≠x:=fun e=>by rw[e,hx]at j;cases j
  show (h.set x o) c=_;rw[A2 _ this];exact j
theorem TrR.box{ex:List Nat}{Cs Hp:Heap}{ks:List Fm}{rows:List (List D)}{bs:List Nat}{ob:Option Nat}(T:TrR ex Cs ks rows bs ob Hp){b:Nat}(hb:b∈ex)(hc:Cs b≠none)(o:Av.Obj):TrR ex Cs ks rows bs ob (Hp.set b o):=by
 have n1: ∀x∈bs,x≠b:=fun x hx e=>hc (by rw[←e];exact T.new x hx);have n2:ob≠some b:=fun e=>hc (T.obn b e).1;refine⟨?_,A1y T.tr fun x hx=>A2 _ (n1 x hx),T.nd,T.new,T.obn,fun q p h1 i=>?_,fun q h=>?_⟩
 ·cases ob with
  |none=>exact T.out
  |some c=>
   have:c≠b:=fun e=>n2 (by rw[e]);show (Hp.set b o) c=_;rw[A2 _ this];exact T.out
 ·rw[A2 _ (fun e=>h1 (by rw[e];exact hb))];exact T.keep q p h1 i
 ·by_cases e:q=b
  ·subst e;rw[A3]at h;cases h
  ·rw[A2 _ e]at h;exact T.dom q h
theorem C3y{H:Heap}{n:Nat}{rows:List (List D)}{ob:Option Nat}(h:OutAt H 7 rows ob)(hn:n=rows.length):SlAt H 7 rows (H8 7 n ob) ob.toList:=by
 subst hn;cases ob with
 |none=>exact .inl ⟨h,rfl,.inl rfl⟩
 |some c=>exact .inr ⟨c,rfl,h,rfl⟩
theorem A2h{Q:D→Heap→Prop}{H G:Heap}{f:Fm}{k:List D→D}{d:List D}{B:List Nat}(h:Tr G f d B)(hB: ∀b∈B,H b=none)(j:H.Le G)(hq:TrQ Q H f k):Fin Q (k d) G:=by
 have hs: ∀x,x∈B→(fun q=>if q∈B then G q else H q) x=G x:=fun x hx=>if_pos hx;refine D2j (H':=fun q=>if q∈B then G q else H q) (fun q o i=>?_) (hq d B _ (h.mono hs) hB fun b hb=>if_neg hb);by_cases hm:q∈B
 ·have:(if q∈B then G q else H q)=some o:=i;rwa [if_pos hm]at this
 ·have:(if q∈B then G q else H q)=some o:=i;rw[if_neg hm]at this;exact j q o this
theorem TrR.tr'{ex:List Nat}{Cs Hp:Heap}{ks:List Fm}{rows:List (List D)}{bs:List Nat}{ob:Option Nat}(T:TrR ex Cs ks rows bs ob Hp){o n:Int}{l:LinV}{s:ByteArray}{td:D}{tb:List Nat}(ht:SlAt Hp 2 (Rw J7 l.t) td tb)(p:tb.Nodup)(j: ∀b∈tb,Cs b≠none){m:Nat}(hm:m=rows.length):
  Tr Hp (.mk o n l s ks) [.int .i64 o,.int .i64 n,td,.int .i64 l.k,.bool l.e,.str s,H8 7 m ob] (tb++(ob.toList++bs)):=by
 rw[Tr];refine⟨td,_,tb,ob.toList,rows,bs,rfl,ht,C3y T.out hm,T.tr,rfl,?_⟩;refine List.nodup_append.2 ⟨p,List.nodup_append.2 ⟨by cases ob<;>simp,T.nd,fun a i b hb e=>?_⟩,fun a i b hb e=>?_⟩
 ·cases ob with
  |none=>cases i
  |some c=>
   rw[Option.toList_some,D1i]at i;exact(T.obn c rfl).2 (by rw[←i,e];exact hb)
 ·subst e;rcases D1h.1 hb with h|h
  ·cases ob with
   |none=>cases h
   |some c=>
    rw[Option.toList_some,D1i]at h;subst h;exact j a i (T.obn a rfl).1
  ·exact j a i (T.new a h)
theorem B2L{H:Heap}{sz:Nat}{es:List (List D)}{d:D}{bs:List Nat}(h:SlAt H sz es d bs):bs.Nodup:=by
 rcases h with⟨_,rfl,_⟩|⟨b,_,_,rfl⟩<;>simp
end Go.Fo
namespace Go.Av
theorem B5Q{n sz:Nat}{es:List (List D)}{ob:Option Nat}{a:D}{ds:List D}{Q:D→Heap→Prop}{H:Heap}(hn:n=es.length)(hc:OutAt H sz es ob)(h:Fin Q (.tuple (a:: .sl sz es::ds)) (I3 H ob)):Fin Q (.tuple (a::H8 sz n ob::ds)) H:=by
 subst hn;cases ob with
 |none=>
  have e:es= []:=hc;subst e;refine E5 (.tuple _ _ (by simp) fun i d d' h1 j=>?_) h
  match i with
  |0=>cases h1;cases j;exact .same _
  |1=>cases h1;cases j;exact .nil _
  |i+2=>
   simp only[D1n]at h1 j;rw[h1]at j;cases j;exact .same _
 |some c=>
  refine Fin.freeze hc (.tuple _ _ (by simp) fun i d d' h1 j=>?_) h
  match i with
  |0=>cases h1;cases j;exact .same _
  |1=>cases h1;cases j;exact .all
  |i+2=>
   simp only[D1n]at h1 j;rw[h1]at j;cases j;exact .same _
theorem OutAt.up{H H':Heap}{sz:Nat}{es:List (List D)}{ob:Option Nat}(h:OutAt H sz es ob)(i:H.Le H'):OutAt H' sz es ob:=by
 cases ob with
 |none=>exact h
 |some c=>exact i _ _ h
theorem OutAt.keep{H0 H':Heap}{sz sz':Nat}{es e2:List (List D)}{ob o2:Option Nat}{i:Nat}(h:OutAt H0 sz' e2 o2)(j:Apd H0 sz ob es i H')(hd: ∀b,o2=some b→ob≠some b):OutAt H' sz' e2 o2:=by
 cases o2 with
 |none=>exact h
 |some c=>exact j.2.1 c _ h (hd c rfl)
structure O3(H Hp:Heap)(sz:Nat)(e1 e2 e3:List (List D))(o1 o2 o3:Option Nat):Prop where
 le:H.Le Hp
 a1:OutAt Hp sz e1 o1
 a2:OutAt Hp sz e2 o2
 a3:OutAt Hp sz e3 o3
 n1: ∀b,o1=some b→H b=none
 n2: ∀b,o2=some b→H b=none
 n3: ∀b,o3=some b→H b=none
 d12: ∀b,o1=some b→o2≠some b
 d13: ∀b,o1=some b→o3≠some b
 d23: ∀b,o2=some b→o3≠some b
theorem O3.nil(H:Heap)(sz:Nat):O3 H H sz [] [] [] none none none:=⟨D2i H,rfl,rfl,rfl,by simp,by simp,by simp,by simp,by simp,by simp⟩
theorem O3.rot{H Hp:Heap}{sz:Nat}{e1 e2 e3:List (List D)}{o1 o2 o3:Option Nat}(h:O3 H Hp sz e1 e2 e3 o1 o2 o3):O3 H Hp sz e2 e3 e1 o2 o3 o1:=
 ⟨h.le,h.a2,h.a3,h.a1,h.n2,h.n3,h.n1,h.d23,fun b e e2=>h.d12 b e2 e,fun b e e2=>h.d13 b e2 e⟩
theorem OutAt.some_of{H:Heap}{sz:Nat}{es:List (List D)}{ob:Option Nat}(h:OutAt H sz es ob){b:Nat}(e:ob=some b):H b=some (.vec sz es):=by subst e;exact h
theorem O3.app1{H Hp H0 H':Heap}{sz:Nat}{e1 e2 e3 e1':List (List D)}{o1 o2 o3:Option Nat}{m:Nat}(h:O3 H Hp sz e1 e2 e3 o1 o2 o3)(i:Hp.Le H0)(j:Apd H0 sz o1 e1' m H'):O3 H H' sz e1' e2 e3 (some m) o2 o3:=by
 have nb: ∀{e:List (List D)} {o:Option Nat},OutAt Hp sz e o→(∀b,o1=some b→o≠some b)→o≠some m:=fun {e o} p hd hb=>by
  rcases j.2.2 with g|g
  ·have:=i _ _ (p.some_of hb);rw[g]at this;cases this
  ·exact hd _ g hb
 refine⟨fun k o hk=>j.2.1 k o (i k o (h.le k o hk)) (fun e=>by have:=h.n1 k e;rw[this]at hk;cases hk),j.1,(h.a2.up i).keep j (fun b e g=>h.d12 b g e),(h.a3.up i).keep j (fun b e g=>h.d13 b g e),fun b e=>?_,h.n2,h.n3,fun b e g=>?_,fun b e g=>?_,h.d23⟩
 ·cases e;rcases j.2.2 with g|g
  ·exact h.le.none (i.none g)
  ·exact h.n1 _ g
 ·cases e;exact nb h.a2 h.d12 g
 ·cases e;exact nb h.a3 h.d13 g
theorem O3.app2{H Hp H0 H':Heap}{sz:Nat}{e1 e2 e3 i:List (List D)}{o1 o2 o3:Option Nat}{m:Nat}(h:O3 H Hp sz e1 e2 e3 o1 o2 o3)(j:Hp.Le H0)(o:Apd H0 sz o2 i m H'):O3 H H' sz e1 i e3 o1 (some m) o3:=(h.rot.app1 j o).rot.rot
theorem O3.app3{H Hp H0 H':Heap}{sz:Nat}{e1 e2 e3 i:List (List D)}{o1 o2 o3:Option Nat}{m:Nat}(h:O3 H Hp sz e1 e2 e3 o1 o2 o3)(j:Hp.Le H0)(o:Apd H0 sz o3 i m H'):O3 H H' sz e1 e2 i o1 o2 (some m):=(h.rot.rot.app1 j o).rot
theorem O3.ap{H Hp H0:Heap}{q:D→Heap→Prop}{sz i n bx:Nat}{o:Go.Av.Obj}{e1 e2 e3 e1' xs:List (List D)}{o1 o2 o3:Option Nat}(h:O3 H Hp sz e1 e2 e3 o1 o2 o3)(j:Hp.Le H0)(m:H0 bx=none)(p:xs≠[])(hn:n=e1.length)
  (h1:(n+xs.length)*i≤140737488355328) (r:n+xs.length≤9223372036854775807) (he:e1'=e1++xs)
  (K: ∀b' H',O3 H H' sz e1' e2 e3 (some b') o2 o3→q (.vec b' sz 0 (n+xs.length)) H'):apS (H8 sz n o1) sz i xs (H0.set bx o) q:=
 A6N (P:=default) m p (h.a1.up j) hn h1 r fun b' H' u=>K b' H' (h.app1 j (by rw[he];exact u))
theorem O3.last{H Hp:Heap}{sz:Nat}{e1 e2 e3:List (List D)}{o1 o2 o3:Option Nat}(h:O3 H Hp sz e1 e2 e3 o1 o2 o3):(putB H sz e3 o3).Le (I3 (I3 Hp o1) o2)∧OutAt (I3 Hp o1) sz e2 o2:=by
 have hd: ∀(K:Heap) (o:Option Nat) (k:Nat) (x:Go.Av.Obj),K k=some x→o≠some k→I3 K o k=some x:=fun K o k x hk hn=>by
  cases o with
  |none=>exact hk
  |some c=>show (K.del c) k=_;rw[D0 (by rintro rfl;exact hn rfl)];exact hk
 constructor
 ·intro k x hk;have old: ∀y,H k=some y→o1≠some k∧o2≠some k∧Hp k=some y:=fun y j=>
   ⟨fun e=>(by have:=h.n1 _ e;rw[this]at j;cases j),fun e=>(by have:=h.n2 _ e;rw[this]at j;cases j),h.le _ _ j⟩
  have i:o1≠some k∧o2≠some k∧Hp k=some x:=by
   cases o3 with
   |none=>exact old x hk
   |some c=>
    replace hk:(H.set c (.vec sz e3)) k=some x:=hk;simp only[Heap.set]at hk;by_cases e:k=c
    ·rw[if_pos e]at hk;cases hk;rw[e];exact⟨fun e=>h.d13 _ e rfl,fun e=>h.d23 _ e rfl,h.a3⟩
    ·rw[if_neg e]at hk;exact old x hk
  exact hd _ _ _ _ (hd _ _ _ _ i.2.2 i.1) i.2.1
 ·cases o2 with
  |none=>exact h.a2
  |some c=>exact hd _ _ _ _ h.a2 (fun e=>h.d12 _ e rfl)
end Go.Av
namespace Go.Lin
open Go Go.Av
def W7{α :Type}(p: α →Bool):List α →Int
 | []=> -1
 |a::l=>if p a=true then 0 else if W7 p l<0 then-1 else W7 p l+1
theorem A1X{α :Type}(p: α →Bool): ∀l,-1≤W7 p l
 | []=>by rw[W7];omega
 |a::l=>by have:=A1X p l;rw[W7];split;omega;split<;>omega
theorem A3s{α :Type}(p: α →Bool): ∀l,decide (0≤W7 p l)=l.any p
 | []=>rfl
 |a::l=>by
  have:=A3s p l;rw[W7,D2M,←this];split
  ·rename_i h;simp[h]
  ·rename_i h;simp only[h,Bool.false_or];apply D1u.2;split<;>omega
theorem A4e{α :Type}(p: α →Bool)(l:List α)(k:Nat)(h:k<l.length):W7 p (l.drop k)=if p l[k]=true then 0 else if W7 p (l.drop (k+1))<0 then-1 else W7 p (l.drop (k+1))+1:=by
 rw[D1m h,W7]
end Go.Lin
namespace Go.Proofs.YtibphjonmikciaaGreatDoor
open Go Go.Av Go.Lin
attribute [local irreducible] ACalls S9
theorem B61{Q}(p:Row→Bool)(l:List Row)(hl:l.length≤1000000000000000)(g:Nat)(first cap:List D)(H:Heap)
  (m: ∀a∈l,∀(Q:D→Heap→Prop),Q (.bool (p a)) H→D7 g (first++[.agg (C6 a)]++cap) H Q) (h:Q (.int .i64 (W7 p l)) H):
  D7 221 [.sl 4 (Rw C6 l),.fn (.func g) first cap] H Q:=by
 refine A9 [] A6 Tryz.func221 rfl ?_;simp only[go_sem,seval,Tryz.results221];refine C8 [0,1,7] (fun(k:Nat)=>[(8,.int .i64 k)]) (fun(k:Nat)=>H) (fun(k:Nat)=>k≤l.length∧W7 p l=if W7 p (l.drop k)<0 then-1 else W7 p (l.drop k)+k) (fun(k:Nat)=>l.length-k) (0) (⟨D1c _,by have:=A1X p l;rw[List.drop_zero];split<;>omega⟩) (by(try simp only[go_sem,seval])<;>(try simp(disch:=omega) [A4])) (by first|exact D2i _|exact A0 (by assumption)|exact B9 (by assumption)|simp only[Heap.Le,Heap.set,Heap.del]at* <;>grind) ?_;rintro q rfl k ⟨hk,hp⟩;by_cases i:k<l.length
 ·have j:decide ((k:Int)<l.length)=true:=D1J (by omega);rw[A4e p l k i]at hp;repeat' (first|with_reducible apply D1H|simp only[go_sem,seval,j,B3 _ _ i]|simp(disch:=omega) only[A4,B3]|intro o|with_reducible refine m l[k] (D1V i) _ ?_|omega)
  ·have h1:p l[k]=true:=by assumption
   rw[if_pos h1]at hp;simp only[Int.zero_add,show¬((0:Int)<0)by omega,if_false]at hp;rw[hp]at h;exact D2m h
  ·have h1: ¬p l[k]=true:=by simp_all
   rw[if_neg h1]at hp;exact C4 (k+1) ⟨by omega,by rw[hp];have:=A1X p (l.drop (k+1));split<;>split<;>omega⟩ (by omega) (by(try simp only[go_sem,seval])<;>(try simp(disch:=omega) [A4])) (D2i _)
 ·have j:decide ((k:Int)<l.length)=false:=D1K (by omega);rw[List.drop_eq_nil_of_le (by omega),W7]at hp;repeat' simp only[go_sem,seval,j]
  simp only[show ((-1:Int)<0)by omega,if_true]at hp;rw[hp]at h;exact D2m h
theorem C3z{Q}(p:Row→Bool)(l:List Row)(hl:l.length≤1000000000000000)(g:Nat)(first cap:List D)(H:Heap)
  (i: ∀a∈l,∀(Q:D→Heap→Prop),Q (.bool (p a)) H→D7 g (first++[.agg (C6 a)]++cap) H Q) (h:Q (.bool (l.any p)) H):
  D7 285 [.sl 4 (Rw C6 l),.fn (.func g) first cap] H Q:=by
 refine A9 [] A6 Tryz.func285 rfl ?_;simp only[go_sem,seval,Tryz.results285];rw[←A3s]at h;repeat' (first|simp only[go_sem,seval]|with_reducible refine B61 p l hl g first cap _ i ?_)
 exact D2m h
end Go.Proofs.YtibphjonmikciaaGreatDoor
