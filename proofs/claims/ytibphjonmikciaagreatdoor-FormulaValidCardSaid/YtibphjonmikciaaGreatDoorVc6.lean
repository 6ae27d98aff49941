/- Part of the proof: what the last text builds on. No condition stands here. -/
import Derived.Test.YtibphjonmikciaaGreatDoorProg
import Derived.Test.YtibphjonmikciaaGreatDoorRows
import Derived.Test.YtibphjonmikciaaGreatDoorCards
import Derived.Test.YtibphjonmikciaaGreatDoorTie
import Derived.Test.YtibphjonmikciaaGreatDoorVc5
set_option linter.unusedSimpArgs false
set_option linter.unusedVariables false
set_option maxRecDepth 20000
namespace Go.Fo
open Go Go.Av Go.Lexs Go.Lin
def A5U(f:Fm):Bool:=G9 (fun g=>D8 g&&decide (g.ks.length≤1000)) f
theorem Y1: ∀f:Fm,A5U f=true→G9 D8 f=true∧FmFit f:=by
 intro f
 induction f using R1 with
 |h o n l s ks i=>
  intro h;unfold A5U at h;rw[j6,D09,D09]at h;obtain⟨⟨h1,d⟩,e⟩:=h;have d:=D0x d;have e:=D1X.1 e;have d:ks.length≤1000:=d;have hk: ∀k∈ks,G9 D8 k=true∧FmFit k:=fun k hk=>i k hk (e k hk);have j:G9 D8 (.mk o n l s ks)=true:=by
   rw[j6,D09];exact⟨h1,D1X.2 fun k hm=>(hk k hm).1⟩
  refine⟨j,?_⟩;cases B3i h1 with
  |con n h=>exact .mk _ _ _ _ _ (by simp[S5]) (by rcases h with rfl|rfl<;>simp[S5]) A0l (by decide) (by simp) (by simp)
  |lin l h hp=>
   have ok:=K5 h;refine A2N ⟨by have:=ok.len;omega,fun t g=>?_,fun t g=>?_,?_⟩
   ·have:=A3P (L7 ok.t t g).1;omega
   ·have:=(L7 ok.t t g).2.2;unfold S5;omega
   ·have:=ok.k;unfold S5;omega
  |var s h=>exact .mk _ _ _ _ _ (by simp[S5]) (by simp[S5]) A0l (by have:=A3P (A6g h);omega) (by simp) (by simp)
  |not k=>exact T7 (by simp[S5]) (by simp) fun q hq=>(hk q hq).2
  |and ks=>exact T7 (by simp[S5]) (by omega) fun q hq=>(hk q hq).2
  |or ks=>exact T7 (by simp[S5]) (by omega) fun q hq=>(hk q hq).2
theorem B79{P:Program}{K:Env→Heap→Prop}{E:Env}{H:Heap}{d:List (Option Nat)}{ops:List Oper}(E0:Env)(H0:Heap)(hw:A1A E0 H0 E H)(h:Av.wpOps P d K ops E0 H0):A41 P d ops K E H (some .wk):=⟨E0,H0,hw,h⟩
theorem A75{H0:Heap}{E j:Env}{x b sz:Nat}{es:List (List D)}{cs cs':List D}(m:Av.Sub j E)(hx:H0 x=none)(g:b≠x)(hl:cs.length=cs'.length)(o: ∀(i:Nat) d d',cs[i]? =some d→cs'[i]? =some d'→Fz x sz es d d'):
  A1A j (H0.set b (.box cs')) E ((H0.set x (.vec sz es)).set b (.box cs)):=by
 refine A18 (b:=x) (sz:=sz) (es:=es) (by rw[A4 _ g.symm];exact A3 _ _) (B16 m) (fun k o' ho=>?_);by_cases hk:k=b
 ·subst hk;rw[A3]at ho;cases ho;exact⟨g,_,A3 _ _,.box _ _ _ hl o⟩
 ·rw[A4 _ hk]at ho;have h:k≠x:=fun e=>by rw[e,hx]at ho;cases ho
  exact⟨h,o',by rw[A4 _ hk,A4 _ h];exact ho,.same _⟩
theorem A9G{G H:Heap}{b sz:Nat}{es:List (List D)}{ob:Option Nat}{rd:List D}(q:OutIn G sz es ob H)(d:G b=none)(hb:H b=some (.box rd))(X:Av.Obj):OutIn G sz es ob (H.set b X):=by
 refine⟨fun k o hk=>?_,?_,q.2.2⟩
 ·have:k≠b:=fun e=>by rw[e,d]at hk;cases hk
  rw[A4 _ this];exact q.1 k o hk
 ·cases ob with
  |none=>exact q.2.1
  |some c=>
   have hc:H c=some (.vec sz es):=q.2.1;have:c≠b:=fun e=>by rw[e,hb]at hc;cases hc
   show (H.set b X) c=_;rw[A4 _ this];exact hc
theorem B8A(a b:Fm):P9 (C1 a) 0 (C1 b)=C1 b:=by rw[O2 a];exact B93 _ _ _ _ _ _ _ _
theorem A76{G d:Heap}{i y e sz:Nat}{ob:Option Nat}{es:List (List D)}{c rd:List D}{o:Av.Obj}(q:OutIn G sz es ob d)(g:d i=some (.box rd))(j:d y=none)(m:G e=none)(h:K2 (d.set y o) ob e=none):
  ((K2 (d.set y o) ob).set e (.vec sz (es++[c]))) i=some (.box rd)∧OutIn G sz (es++[c]) (some e) ((K2 (d.set y o) ob).set e (.vec sz (es++[c]))):=B77 q g j m h
def A5F:Fm:=fxL (-1) true
theorem A2S:A5U fxF=true∧A5U fxP=true∧A5U fxN=true∧A5U fxA=true∧A5U fxS=true∧A5U A4q=true∧A5U fxV=true∧A5U (A1N [fxF,normF fxP true])=true∧A5U (A1N [fxF,normF fxF true])=true∧A5U A5F=true:=by decide+kernel
theorem B1L:J4 fxF≤1000∧J4 fxP≤1000∧J4 fxN≤1000∧J4 fxA≤1000:=by decide+kernel
theorem B8B:upS (E4 fxF++D0 fxF)= [nB,nX]:=by decide+kernel
theorem A6v:D0 fxF= [nB]∧nX≠nB∧G7 (B nX)=true:=by decide+kernel
theorem C7W:nB∈J8 (D0 fxF)∧nX∉J8 (D0 fxF):=by
 rw[G5,G5,A6v.1];exact⟨by simp,by simp[A6v.2.1]⟩
theorem A9H:meetL (E4.intsL [fxF,fxP]) (D0.boolsL [fxF,fxP])=false∧(upS (E4.intsL [fxF,fxP])).length+(upS (D0.boolsL [fxF,fxP])).length≤12∧meetL (E4.intsL [fxF,fxF]) (D0.boolsL [fxF,fxF])=false∧(upS (E4.intsL [fxF,fxF])).length+(upS (D0.boolsL [fxF,fxF])).length≤12:=by decide+kernel
end Go.Fo
namespace Go.Proofs.YtibphjonmikciaaGreatDoor
open Go Go.Av Go.Lexs Go.Lin Go.Fo
attribute [local irreducible] ACalls S3
theorem B8C{Q}(f:Fm)(d:FmFit f)(g:VOk f)(hv:E7 f=true)(b:Bool)(hs:X9 f []=some b)(H:Heap)(h:Q (.tuple [.bool b,.int .i64 0]) H):E6 31 [.agg (C1 f)] H Q:=by
 refine B2 [] A8 Tryz.func31 rfl ?_;simp only[go_sem,seval,Tryz.results31];have e:=fun(Q:D→Heap→Prop) (H:Heap)=>Q6 (Q:=Q) f d g H;rw[hv]at e;repeat' (first|simp only[go_sem,seval]|intro i|with_reducible refine e _ _ ?_)
 refine A0n 3 ?_;refine A34 f (K1 hv) d [] (by simp) b hs _ ?_;repeat' simp only[go_sem,seval]
 exact D2O (A0 (by assumption)) h
theorem C0b{Q}(f g:Fm)(p:FmFit f)(q:FmFit g)(z:VOk f)(A:VOk g)(r:E7 f=true)(u:E7 g=true)(hm:meetL (E4.intsL [f,g]) (D0.boolsL [f,g])=false)(hl:(upS (E4.intsL [f,g])).length+(upS (D0.boolsL [f,g])).length≤12)
  (b:Bool) (hs:X9 (.mk 5 0 nilL D5 [f,normF g true]) []=some b) (hn:G9 D8 (.mk 5 0 nilL D5 [f,normF g true])=true) (H:Heap) (h:Q (.tuple [.bool (!b),.int .i64 0]) H):E6 37 [.agg (C1 f),.agg (C1 g)] H Q:=by
 refine B2 [] A8 Tryz.func37 rfl ?_;simp only[go_sem,seval,Tryz.results37];intro d C i m;simp only[A6]at m;have o:d≠i:=fun e=>m.1 e.symm;have x:((H.set d (.box (C1 f))).set i (.box (C1 g))) d=some (.box (C1 f)):=by rw[A4 _ o,A3]
 have y:((H.set d (.box (C1 f))).set i (.box (C1 g))) i=some (.box (C1 g)):=A3 _ _;have j:H.Le ((H.set d (.box (C1 f))).set i (.box (C1 g))):=(A0 C).trans (A0 (by simp only[A6];exact m));generalize (H.set d (.box (C1 f))).set i (.box (C1 g))=Bs at x y j⊢;repeat' (first|simp only[go_sem,seval,x,y]|with_reducible refine C2A f g p q z A r u hm hl _ ?_|with_reducible refine A72 f g (K1 r) p (K1 u) q b hs hn _ ?_)
 exact D2O j h
theorem C0c{Q}(f:Fm)(j:FmFit f)(q:VOk f)(m:E7 f=true)(hm:meetL (E4.intsL [f,f]) (D0.boolsL [f,f])=false)(hl:(upS (E4.intsL [f,f])).length+(upS (D0.boolsL [f,f])).length≤12)
  (hs:X9 (.mk 5 0 nilL D5 [f,normF f true]) []=some false) (hn:G9 D8 (.mk 5 0 nilL D5 [f,normF f true])=true) (H:Heap) (h:Q (.tuple [.bool true,.int .i64 0]) H):E6 38 [.agg (C1 f),.agg (C1 f)] H Q:=by
 refine B2 [] A8 Tryz.func38 rfl ?_;simp only[go_sem,seval,Tryz.results38];intro d y g o;simp only[A6]at o;have p:d≠g:=fun e=>o.1 e.symm;have r:((H.set d (.box (C1 f))).set g (.box (C1 f))) d=some (.box (C1 f)):=by rw[A4 _ p,A3]
 have u:((H.set d (.box (C1 f))).set g (.box (C1 f))) g=some (.box (C1 f)):=A3 _ _;have i:H.Le ((H.set d (.box (C1 f))).set g (.box (C1 f))):=(A0 y).trans (A0 (by simp only[A6];exact o));generalize (H.set d (.box (C1 f))).set g (.box (C1 f))=Bs at r u i⊢;have x:=fun(Q:D→Heap→Prop) (H:Heap)=>A72 (Q:=Q) f f (K1 m) j (K1 m) j false hs hn H;simp only[D2L]at x;repeat' (first|simp only[go_sem,seval,r,u]|with_reducible refine C2A f f j j q q m m hm hl _ ?_|with_reducible refine x _ _ ?_)
 exact D2O i h
theorem B1M{Q}(so g:Fm)(o:Nat)(H:Heap)(r:H o=some (.box (C1 so)))(h:Q (.agg (C1 (A1N [so,g]))) H):E6 74 [.agg (C1 g),.box o 0] H Q:=by
 refine B2 [] A8 Tryz.func74 rfl ?_;simp only[go_sem,seval,Tryz.results74];intro d u i m;simp only[A6]at m;have y:d≠i:=fun e=>m.1 e.symm;have z:o≠d:=fun e=>by rw[←e,r]at u;cases u
 have A:o≠i:=fun e=>by rw[←e,r]at m;cases m.2
 obtain⟨Z,C⟩: ∃Z:List D,Z= [.int .i64 0,.int .i64 0,.nilsl,.int .i64 0,.bool false,.str ⟨#[]⟩,.nilsl]:=⟨_,rfl⟩
 rw[←C];have G:((H.set d (.box (C1 g))).set i (.box Z)) d=some (.box (C1 g)):=by rw[A4 _ y,A3]
 have q:((H.set d (.box (C1 g))).set i (.box Z)) i=some (.box Z):=A3 _ _;have I:((H.set d (.box (C1 g))).set i (.box Z)) o=some (.box (C1 so)):=by rw[A4 _ A,A4 _ z];exact r
 have p:H.Le ((H.set d (.box (C1 g))).set i (.box Z)):=(A0 u).trans (A0 (by simp only[A6];exact m));generalize (H.set d (.box (C1 g))).set i (.box Z)=Bs at G q I p⊢;rw[C]at q;repeat' (first|simp only[go_sem,seval,G,q,I]|simp(disch:=first|omega|grind) only[B9]|(intro j;try simp only[A6]at j))
 rename_i x;have hx:=j;clear j;exact B2h (es:=[C1 so,C1 g]) [so,g] rfl rfl p m.2 q hx _ h
theorem B8D{Q}(so:Fm)(e:G9 D8 so=true)(g:FmFit so)(more:List LinV)(hm:more.length≤1000)(b:Bool)(hs:X9 so more=some b)(d:Nat)(H:Heap)(i:H d=some (.box (C1 so)))(h:Q (.bool b) H):E6 77 [.sl 3 (Rw D7 more),.box d 0] H Q:=by
 refine B2 [] A8 Tryz.func77 rfl ?_;simp only[go_sem,seval,Tryz.results77];repeat' (first|simp only[go_sem,seval,i]|with_reducible refine A34 so e g more hm b hs _ ?_)
 exact D2R h
abbrev vW:List D:=[.int .i64 3,.int .i64 0,.nilsl,.int .i64 0,.bool false,.str nB,.nilsl]
abbrev noW(d:D):List D:=[.int .i64 4,.int .i64 0,.nilsl,.int .i64 0,.bool false,.str ⟨#[]⟩,d]
theorem C4V:NilR (.agg (noW (.sl 7 [vW]))) (.agg (C1 A4q)):=by
 rw[show C1 A4q= [.int .i64 4,.int .i64 0,.sl 2 [],.int .i64 0,.bool false,.str ⟨#[]⟩,.sl 7 (Rw C1 [fxV])]from O2 _];refine A80 (.nil 2) (.sl 7 _ _ rfl (fun i e e' h1 m=>?_) (fun i e e' j d d' h1 m g h=>?_))
 ·match i with
  |0=>cases h1;cases m;rfl
  |i+1=>cases h1
 ·match i with
  |0=>
   cases h1;cases m;rw[show C1 fxV= [.int .i64 3,.int .i64 0,.sl 2 [],.int .i64 0,.bool false,.str nB,.sl 7 []]from O2 _]at h
   match j with
   |0=>cases g;cases h;exact .same _
   |1=>cases g;cases h;exact .same _
   |2=>cases g;cases h;exact .nil 2
   |3=>cases g;cases h;exact .same _
   |4=>cases g;cases h;exact .same _
   |5=>cases g;cases h;exact .same _
   |6=>cases g;cases h;exact .nil 7
   |j+7=>cases g
  |i+1=>cases h1
theorem C2B{Q}(so:Fm)(e:Nat)(H:Heap)(j:H e=some (.box (C1 so)))(h:Q (.agg (C1 (A1N [so,A4q]))) H):E6 74 [.agg (noW (.sl 7 [vW])),.box e 0] H Q:=by
 refine R6 (args':=[.agg (C1 A4q),.box e 0]) rfl (fun i d d' h1 g=>?_) (B1M so A4q e H j h)
 match i with
 |0=>cases h1;cases g;exact C4V
 |1=>cases h1;cases g;exact .same _
 |i+2=>cases h1
theorem L1:E7 fxF=true∧FmFit fxF∧VOk fxF∧G9 D8 fxF=true:=⟨R5.1,(Y1 _ A2S.1).2,.inl (by have:=B1L.1;omega),(Y1 _ A2S.1).1⟩
def C9l:Nat→Fm
 |0=>fxF
 |1=>fxS
 |_=>A1N [fxS,A5F]
set_option maxHeartbeats 4000000 in
theorem B8E{Q}(H:Heap)(h:Q (.tuple [.sl 2 (Rw vlC fxVals),.int .i64 0]) H):E6 32 [.agg (C1 fxF)] H Q:=by
 refine B2 [(15,.wk)] A8 Tryz.func32 rfl ?_;simp only[go_sem,seval,Tryz.results32];obtain⟨hv,fa,vo,b3⟩:=L1;have vc:=fun(Q:D→Heap→Prop) (H:Heap)=>Q6 (Q:=Q) fxF fa vo H;rw[hv]at vc;intro b1 h1;have e1:(H.set b1 (.box (C1 fxF))) b1=some (.box (C1 fxF)):=A3 _ _;have U:H.Le (H.set b1 (.box (C1 fxF))):=A0 h1;have W:=A4r.1;have a4:=C0X;have a5:=A4r.2.2.2.2;have a6:=C7W;have V:=B8B;have u:=A2S;generalize hF:fxF=F at e1 U vc hv fa vo b3 W a6 V⊢;generalize H.set b1 (.box (C1 F))=Bs at e1 U⊢;repeat' (first|simp only[go_sem,seval,e1]|with_reducible refine vc _ _ ?_)
 refine A0n 3 ?_;refine A34 F b3 fa [] (by simp) true W _ ?_;repeat' (first|simp only[go_sem,seval,e1]|(intro g;try simp only[A6]at g))
 rename_i x;have hx:=g;clear g;refine A33 hx F fa rfl ?_;repeat' (first|simp only[go_sem,seval,e1]|(intro g;try simp only[A6]at g))
 rename_i m;have h7:=g;clear g;have c9:b1≠m:=fun e=>by rw[←e,e1]at h7;cases h7
 have c7:(Bs.set m (.box (C1 F))) m=some (.box (C1 F)):=A3 _ _;have Y:H.Le (Bs.set m (.box (C1 F))):=U.trans (A0 h7);have b4:H m=none:=U.none h7;generalize Bs.set m (.box (C1 F))=Cs at c7 Y⊢;refine B71 _ _ (A1i _) _ fun K hK a7=>?_;have d0:K.length≤2:=by
  have:K.length= [nB,nX].length:=((List.perm_ext_iff_of_nodup hK (by decide+kernel)).2 fun y=>by rw[a7,G5,G5,←D1M,←U1,V]).length_eq;have d2: [nB,nX].length=2:=rfl;omega
 repeat' simp only[go_sem,seval]
 refine A89 _ _ fun bk a9=>?_;repeat' simp only[go_sem,seval]
 refine A9A bk tt K (by omega) (fun s hs=>by
  have:s∈[nB,nX]:=by rw[←V,U1,D1M,←G5,←G5 (D0 F),←a7];exact hs
  simp only[D1O,D1P,or_false]at this;rcases this with rfl|rfl<;>decide) _ (A3 _ _) fun v c0 hm=>?_
 have ev:v= [nB,nX]:=by
  rw[←V];exact A6O c0 (A8z _) fun s=>by rw[hm,a7,G5,G5,U1,D1M]
 rw[ev];have c1:m≠bk:=fun e=>by rw[←e,c7]at a9;cases a9
 have I:(Cs.set bk (.box [.fm (D4 tt K)])) m=some (.box (C1 F)):=by rw[A4 _ c1];exact c7
 have a0:H.Le (Cs.set bk (.box [.fm (D4 tt K)])):=Y.trans (A0 a9);generalize Cs.set bk (.box [.fm (D4 tt K)])=Ds at I a0⊢;have hlen:(Rw I6 [nB,nX]).length=2:=rfl;repeat' simp only[go_sem,seval,hlen]
 refine C8 [5,7,8,31,32] (fun(p:Nat×Option Nat×Heap)=>[(33,.int .i64 p.1),(6,J3 2 p.1 p.2.1)]) (fun(p:Nat×Option Nat×Heap)=>p.2.2) (fun(p:Nat×Option Nat×Heap)=>p.1≤2∧p.2.2 m=some (.box (C1 (C9l p.1)))∧OutIn H 2 (Rw vlC (fxVals.take p.1)) p.2.1 p.2.2) (fun(p:Nat×Option Nat×Heap)=>2-p.1) ((0,none,Ds)) (⟨D1H _,by show Ds m=_;rw[I,←hF];rfl,a0,rfl,fun _ e=>(by cases e)⟩) (by(try simp only[go_sem,seval])<;>(try simp(disch:=omega) [A5])) (by first|exact D2N _|exact A0 (by assumption)|exact B4 (by assumption)|simp only[Heap.Le,Heap.set,Heap.del]at* <;>grind) ?_;rintro Ec rfl ⟨k,ob,Hp⟩ ⟨hk,A,J⟩;simp only at hk A J
 match k,hk,A,J with
 |0,hk,A,J=>
  have r0:(Rw I6 [nB,nX]).getD 0 []= [.str nB]:=rfl;repeat' (first|with_reducible apply D0w|simp only[go_sem,seval,r0,A,A2m,if_pos a6.1]|(intro g;try simp only[A6]at g)|omega)
  rename_i j o x hx q;have r:=g;clear g;have c7: ∀X:Av.Obj,((Hp.set j (.box [.str nB,.int .i64 0])).set q X) m=some (.box (C1 fxF)):=fun X=>by
   rw[A4 _ (fun e=>by rw[←e,A]at r;cases r.2.2),A4 _ (fun e=>by rw[←e,A]at o;cases o)];exact A
  have c2: ∀X:Av.Obj,((Hp.set j (.box [.str nB,.int .i64 0])).set q X) j=some (.box [.str nB,.int .i64 0]):=fun X=>by
   rw[A4 _ (fun e=>by rw[e]at r;exact r.2.1 rfl)];exact A3 _ _
  have c3:=(J.set o (.box [.str nB,.int .i64 0])).set (b:=q) (A6.2 ⟨r.2.1,r.2.2⟩);refine B79 [(5,.fm (D4 tt (J8 (D0 F)))),(7,.box m 0),(8,.fn (.func 74) [] [.box m 0]),(31,.sl 1 (Rw I6 [nB,nX])),(32,.int .i64 2),(33,.int .i64 0),(6,J3 2 0 ob),(10,.str nB),(11,.box j 0),(12,.box q 0)] ((Hp.set j (.box [.str nB,.int .i64 0])).set q (.box (noW (.sl 7 [vW])))) (A75 (cs:=noW (.vec x 7 0 1)) (by(try simp only[go_sem,seval])<;>(try simp(disch:=omega) [A5])) (A6.2 hx) r.1 rfl (fun i d d' h1 h2=>?_)) ?_
  ·match i with
   |0=>cases h1;cases h2;exact .same _
   |1=>cases h1;cases h2;exact .same _
   |2=>cases h1;cases h2;exact .same _
   |3=>cases h1;cases h2;exact .same _
   |4=>cases h1;cases h2;exact .same _
   |5=>cases h1;cases h2;exact .same _
   |6=>cases h1;cases h2;exact .all
   |i+7=>cases h1
  have I:=c7 (.box (noW (.sl 7 [vW])));have C:=c2 (.box (noW (.sl 7 [vW])));have d12:((Hp.set j (.box [.str nB,.int .i64 0])).set q (.box (noW (.sl 7 [vW])))) q=some (.box (noW (.sl 7 [vW]))):=A3 _ _;have L:=c3 (.box (noW (.sl 7 [vW])));have M:m≠j:=fun e=>by rw[←e,A]at o;cases o
  generalize (Hp.set j (.box [.str nB,.int .i64 0])).set q (.box (noW (.sl 7 [vW])))=T at I C d12 L⊢;repeat' (first|simp only[go_sem,seval,d12]|with_reducible refine C2B fxF m T I ?_)
  refine A0n 3 ?_;refine A34 fxS (Y1 _ u.2.2.2.2.1).1 (Y1 _ u.2.2.2.2.1).2 [] (by simp) true a5 _ ?_;repeat' (first|simp only[go_sem,seval,I,C,d12,B8A]|simp(disch:=first|omega|grind) only[B9]|(intro g;try simp only[A6]at g)|with_reducible refine C2B fxF m T I ?_)
  rename_i y;have hy:(T.set m (.box (C1 (A1N [fxF,A4q])))) y=none:=A6.2 g;clear g;have f7:(T.set m (.box (C1 (A1N [fxF,A4q])))) m=some (.box (C1 (A1N [fxF,A4q]))):=A3 _ _;have G:=A9G L b4 I (.box (C1 (A1N [fxF,A4q])));generalize T.set m (.box (C1 (A1N [fxF,A4q])))=Gt at f7 hy G⊢;refine B6U (G.set hy _) (by simp) rfl (by simp) (by simp) fun b' b0 b2 b6=>?_;obtain⟨g7,O⟩:=A76 (c:=[.str nB,.int .i64 0]) G f7 hy b0 b2;repeat' (first|simp only[go_sem,seval]|simp(disch:=omega) only[A5,B3,C5])
  exact C4 (1,some b',_) ⟨by simp,g7,O⟩ (by simp) (by(try simp only[go_sem,seval])<;>(try simp(disch:=omega) [A5])) (D2N _)
 |1,hk,A,J=>
  have r1:(Rw I6 [nB,nX]).getD 1 []= [.str nX]:=rfl;repeat' (first|with_reducible apply D0w|simp only[go_sem,seval,r1,A,A2m,if_neg a6.2]|(intro g;try simp only[A6]at g)|omega)
  rename_i j;have o:=g;clear g;have M:m≠j:=fun e=>by rw[←e,A]at o;cases o
  have I:(Hp.set j (.box [.str nX,.int .i64 0])) m=some (.box (C1 fxS)):=by rw[A4 _ M];exact A
  have C:(Hp.set j (.box [.str nX,.int .i64 0])) j=some (.box [.str nX,.int .i64 0]):=A3 _ _;have L:=J.set o (.box [.str nX,.int .i64 0]);generalize Hp.set j (.box [.str nX,.int .i64 0])=T at I C L⊢;refine B4r (fun more=>X9 fxS more) nX A6v.2.2 77 [.box m 0] T (fun more bb c4 c8 d3 H' Q c5 hq=>B8D fxS (Y1 _ u.2.2.2.2.1).1 (Y1 _ u.2.2.2.2.1).2 more (by omega) bb c4 m H' (c5 _ _ I) hq) 1 a4 ?_;repeat' (first|simp only[go_sem,seval,C]|simp(disch:=omega) only[A5,B3,C5]|simp(disch:=first|omega|grind) only[B9]|(intro g;try simp only[A6]at g))
  rename_i z;have hz:=g;clear g;have b8:H j=none:=J.1.none o;have f7:(T.set j (.box [.str nX,.int .i64 1])) m=some (.box (C1 fxS)):=by rw[A4 _ M];exact I
  have b9:(T.set j (.box [.str nX,.int .i64 1])) j=some (.box [.str nX,.int .i64 1]):=A3 _ _;have G:=A9G L b8 C (.box [.str nX,.int .i64 1]);refine A5V (A3 _ _) rfl ?_;rw[E8 (A6.2 hz)];generalize T.set j (.box [.str nX,.int .i64 1])=Gt at f7 b9 G⊢;refine A4o ⟨[⟨nX,1⟩],-1,true⟩ _ ?_;repeat' simp only[go_sem,seval]
  refine B1M fxS A5F m Gt f7 ?_;repeat' (first|simp only[go_sem,seval,f7,b9,B8A]|simp(disch:=first|omega|grind) only[B9]|(intro g;try simp only[A6]at g))
  rename_i y;have hy:(Gt.set m (.box (C1 (A1N [fxS,A5F])))) y=none:=A6.2 g;clear g;have g7:(Gt.set m (.box (C1 (A1N [fxS,A5F])))) m=some (.box (C1 (A1N [fxS,A5F]))):=A3 _ _;have O:=A9G G b4 f7 (.box (C1 (A1N [fxS,A5F])));generalize Gt.set m (.box (C1 (A1N [fxS,A5F])))=Gu at g7 hy O⊢;refine B6U (O.set hy _) (by simp) rfl (by simp) (by simp) fun b' b0 b2 b6=>?_;obtain⟨k7,c6⟩:=A76 (c:=[.str nX,.int .i64 1]) O g7 hy b0 b2;repeat' (first|simp only[go_sem,seval]|simp(disch:=omega) only[A5,B3,C5])
  exact C4 (2,some b',_) ⟨by simp,k7,c6⟩ (by simp) (by(try simp only[go_sem,seval])<;>(try simp(disch:=omega) [A5])) (D2N _)
 |2,hk,A,J=>
  repeat' (first|with_reducible apply D0w|simp only[go_sem,seval]|simp(disch:=omega) only[A5,B3,C5]|(intro g;try simp only[A6]at g)|omega)
  have e2:fxVals.take 2=fxVals:=rfl;rw[e2]at J;refine A60 (n:=2) rfl J.2.1 (D2O J.le h)
 |k+3,hk,_,_=>omega
end Go.Proofs.YtibphjonmikciaaGreatDoor
namespace Go.Fo
open Go Go.Av Go.Lexs Go.Lin
def B8F(f:Fm):Bool:=(decide (f.op=1)||decide (f.n=0))&&(decide (f.op=3)||decide (f.s.size=0))&&(decide (f.op=2)||lin0 f.l)
def B35(f:Fm):Bool:=
 if f.op=1 then decide ((f.ks.length:Int)=0)&&(decide (f.n=0)||decide (f.n=1))
 else if f.op=2 then(f.l.t.all fun t=>plainB t.v)&&(decide ((f.ks.length:Int)=0)&&validL f.l)
 else if f.op=3 then decide ((f.ks.length:Int)=0)&&plainB f.s
 else if f.op=4 then decide ((f.ks.length:Int)=1)
 else decide (f.op=5)||decide (f.op=6)
theorem C0d(f:Fm):D8 f=(B8F f&&B35 f):=by
 unfold D8 B8F B35;rw[B3x,B3y];by_cases o1:f.op=1
 ·simp only[o1,if_true,decide_true,Bool.true_or,Bool.true_and,show¬((1:Int)=3)by decide,show¬((1:Int)=2)by decide,decide_false,Bool.false_or];cases decide (f.n=0)<;>cases decide (f.n=1)<;>cases decide (f.s.size=0)<;>cases lin0 f.l<;>cases decide ((f.ks.length:Int)=0)<;>rfl
 by_cases o2:f.op=2
 ·simp only[o2,if_true,decide_true,Bool.true_or,Bool.and_true,show¬((2:Int)=3)by decide,show¬((2:Int)=1)by decide,decide_false,Bool.false_or,if_false];cases decide (f.n=0)<;>cases decide (f.s.size=0)<;>cases decide ((f.ks.length:Int)=0)<;>cases validL f.l<;>cases (f.l.t.all fun t=>plainB t.v)<;>rfl
 by_cases o3:f.op=3
 ·simp only[o3,if_true,decide_true,Bool.true_or,Bool.and_true,show¬((3:Int)=2)by decide,show¬((3:Int)=1)by decide,decide_false,Bool.false_or,if_false];cases decide (f.n=0)<;>cases lin0 f.l<;>cases decide ((f.ks.length:Int)=0)<;>cases plainB f.s<;>rfl
 simp only[o1,o2,o3,if_false,decide_false,Bool.false_or];by_cases d:f.op=4
 ·simp only[d,if_true]
 ·simp only[d,if_false];by_cases e:f.op=5
  ·simp[e]
  ·by_cases g:f.op=6
   ·simp[g]
   ·simp[e,g]
def i7(f:Fm)(deep:Int):Bool:=decide ((O6 f:Int)≤deep)&&G9 D8 f
theorem B5J(f:Fm)(d:Int):i7 f d=(decide (1≤d)&&B8F f&&f.ks.all (fun k=>i7 k (d-1))&&B35 f):=by
 rw[Bool.eq_iff_iff];unfold i7;rw[j6,C0d];simp only[D09,D1I,D1X];constructor
 ·rintro⟨h1,⟨g,e⟩,h⟩;have:=(A3w f d.toNat).1 (by omega);exact⟨⟨⟨by omega,g⟩,fun k hk=>⟨by have:=this.2 k hk;omega,h k hk⟩⟩,e⟩
 ·rintro⟨⟨⟨h1,g⟩,e⟩,h⟩;have:=(A3w f d.toNat).2 ⟨by omega,fun k hk=>by have:=(e k hk).1;omega⟩;exact⟨by omega,⟨g,h⟩,fun k hk=>(e k hk).2⟩
end Go.Fo
namespace Go.Proofs.YtibphjonmikciaaGreatDoor
open Go Go.Av Go.Lexs Go.Lin Go.Fo
attribute [local irreducible] ACalls S3
theorem B8G{Q}(a:LinV)(r:L6 a)(H:Heap)(h:Q (.bool (lin0 a)) H):E6 60 [.agg (D7 a),.agg [.nilsl,.int .i64 0,.bool false]] H Q:=by
 refine B2 [(6,.par)] A8 Tryz.func60 rfl ?_;simp only[go_sem,seval,Tryz.results60];intro g u j p;simp only[A6]at p;have e2:((H.set g (.box (D7 a))).set j (.box [.nilsl,.int .i64 0,.bool false])) g=some (.box (D7 a)):=by rw[A4 _ p.1.symm,A3]
 have e3:((H.set g (.box (D7 a))).set j (.box [.nilsl,.int .i64 0,.bool false])) j=some (.box [.nilsl,.int .i64 0,.bool false]):=A3 _ _;have d:H.Le ((H.set g (.box (D7 a))).set j (.box [.nilsl,.int .i64 0,.bool false])):=(A0 u).trans (A0 (by simp only[A6];exact p));generalize (H.set g (.box (D7 a))).set j (.box [.nilsl,.int .i64 0,.bool false])=Bs at e2 e3 d⊢;have hlen:=r.len;have d1:decide (a.t= [])=decide ((a.t.length:Int)=0):=D1Z.2 (by rw[←List.length_eq_zero_iff];omega);unfold lin0 at h;rw[d1]at h;by_cases o:a.k=0
 ·by_cases m:a.e=true
  ·repeat' simp only[go_sem,seval,e2,e3,o,m]
   all_goals (refine D2O d ?_;simp_all)
  ·have m:a.e=false:=by simpa using m
   by_cases t0:(a.t.length:Int)=0
   ·repeat' simp only[go_sem,seval,e2,e3,o,m,t0]
    refine C8 [2,3,29] (fun(i:Nat)=>[(30,.int .i64 i)]) (fun(i:Nat)=>Bs) (fun(i:Nat)=>i=0) (fun(i:Nat)=>0-i) (0) (rfl) (by(try simp only[go_sem,seval])<;>(try simp(disch:=omega) [A5])) (by first|exact D2N _|exact A0 (by assumption)|exact B4 (by assumption)|simp only[Heap.Le,Heap.set,Heap.del]at* <;>grind) ?_;rintro x rfl i y;have q:decide ((i:Int)<0)=false:=D0z (by omega);repeat' simp only[go_sem,seval,q]
    refine D2O d ?_;simp_all
   ·repeat' simp only[go_sem,seval,e2,e3,o,m,t0]
    all_goals (refine D2O d ?_;simp_all)
 ·repeat' simp only[go_sem,seval,e2,e3,o]
  all_goals (refine D2O d ?_;simp_all)
theorem C0e(n:Nat): ∀{Q} (f:Fm) (hn:SizeOf.sizeOf f≤n) (x:FmFit f) (d:Int) (h0:0≤d) (h1:d≤60) (H:Heap) (h:Q (.bool (i7 f d)) H),E6 57 [.agg (C1 f),.int .i64 d] H Q:=by
  induction n with
  |zero=>intro Q f hn;cases f;simp at hn
  |succ n ih=>
  intro Q f hn x d h0 h1 H h;refine B2 [(3,.wk)] A8 Tryz.func57 rfl ?_;simp only[go_sem,seval,Tryz.results57];have a0:=x.kl;have a4:=x.lin.len;rw[B5J]at h;intro y g2;have e2:(H.set y (.box (C1 f))) y=some (.box (C1 f)):=A3 _ _;have e:H.Le (H.set y (.box (C1 f))):=A0 g2;generalize H.set y (.box (C1 f))=Bs at e2 e⊢;apply Z4 (C:=1≤d∧B8F f=true)
  · intro A
    have d1:decide (f.s.size=0)=decide (B f.s= []):=by
      rw[←U7];exact D1Z.2 List.length_eq_zero_iff
    unfold B8F at A h;rw[d1]at A h;by_cases G:d<1
    · repeat' (first|with_reducible apply D0w|simp only[go_sem,seval,e2,G])
      all_goals (refine D2O e ?_;have: ¬1≤d:=by omega
                 simpa [this]using h)
    · have I:1≤d:=by omega
      have T:=fun(Q:D→Heap→Prop)=>B8G (Q:=Q) f.l x.lin Bs;generalize lin0 f.l=l0 at A h T;by_cases o1:f.op=1
      · repeat' (first|with_reducible apply D0w|simp only[go_sem,seval,e2,G,o1]|intro m|with_reducible refine T _ ?_)
        all_goals first
          |exact O5 [(1,.int .i64 d),(2,.box y 0)] Bs (by simp only[go_sem,seval]) (D2N _) (A (by simp_all))
          |(refine D2O e ?_;simp_all;done)
      · by_cases o2:f.op=2
        · repeat' (first|with_reducible apply D0w|simp only[go_sem,seval,e2,G,o2]|intro m)
          all_goals first
            |exact O5 [(1,.int .i64 d),(2,.box y 0)] Bs (by simp only[go_sem,seval]) (D2N _) (A (by simp_all))
            |(refine D2O e ?_;simp_all;done)
        · by_cases o3:f.op=3
          · repeat' (first|with_reducible apply D0w|simp only[go_sem,seval,e2,G,o3]|intro m|with_reducible refine T _ ?_)
            all_goals first
              |exact O5 [(1,.int .i64 d),(2,.box y 0)] Bs (by simp only[go_sem,seval]) (D2N _) (A (by simp_all))
              |(refine D2O e ?_;simp_all;done)
          · repeat' (first|with_reducible apply D0w|simp only[go_sem,seval,e2,G,o1,o2,o3]|intro m|with_reducible refine T _ ?_)
            all_goals first
              |exact O5 [(1,.int .i64 d),(2,.box y 0)] Bs (by simp only[go_sem,seval]) (D2N _) (A (by simp_all))
              |(refine D2O e ?_;simp_all;done)
  rintro⟨I,J⟩;rw[J,D0y I]at h;simp only[Bool.true_and]at h;have Y:IntKind.i64.wrap (d-1)=d-1:=A5 (by omega) (by omega);repeat' simp only[go_sem,seval,e2]
  refine C8 [1,2,44,45] (fun(i:Nat)=>[(46,.int .i64 i)]) (fun(i:Nat)=>Bs) (fun(i:Nat)=>i≤f.ks.length∧∀(j:Nat) (L:j<f.ks.length),j<i→i7 f.ks[j] (d-1)=true) (fun(i:Nat)=>f.ks.length-i) (0) (⟨D1H _,fun _ _ h=>absurd h (D2C _)⟩) (by(try simp only[go_sem,seval])<;>(try simp(disch:=omega) [A5])) (by first|exact D2N _|exact A0 (by assumption)|exact B4 (by assumption)|simp only[Heap.Le,Heap.set,Heap.del]at* <;>grind) ?_;rintro Ec rfl i ⟨hi,z⟩;by_cases u:i<f.ks.length
  · have o:decide ((i:Int)<f.ks.length)=true:=D0y (by omega)
    have M:(i:Int)<f.ks.length:=by omega
    have hm:=D1A u;have U:=fun(Q:D→Heap→Prop) (H:Heap)=>ih (Q:=Q) f.ks[i] (by have:=Q5 hm;omega) (x.kid hm) (d-1) (by omega) (by omega) H;cases hs:i7 f.ks[i] (d-1)with
    |false=>
      rw[hs]at U;have X:(f.ks.all fun k=>i7 k (d-1))=false:=List.all_eq_false.2 ⟨_,hm,by rw[hs];simp⟩;rw[X]at h;simp only[Bool.false_and]at h;repeat' (first|with_reducible apply D0w|simp only[go_sem,seval,o,M,B3 _ _ u,C3 _ _ u,Y]|intro m|with_reducible refine U _ _ ?_|omega)
      exact D2O (by simp only[E3,D1,D2]at* <;>grind) h
    |true=>
      rw[hs]at U;repeat' (first|with_reducible apply D0w|simp only[go_sem,seval,o,M,B3 _ _ u,C3 _ _ u,Y]|simp(disch:=omega) only[A5,B3,C5]|intro m|with_reducible refine U _ _ ?_|omega)
      refine C4 (i+1) ⟨by omega,fun j L a5=>?_⟩ (by omega) (by(try simp only[go_sem,seval])<;>(try simp(disch:=omega) [A5])) (by simp only[E3,D1,D2]at* <;>grind);rcases Nat.lt_or_ge j i with g|g
      · exact z j L g
      · have:j=i:=by omega
        subst this;exact hs
  · have o:decide ((i:Int)<f.ks.length)=false:=D0z (by omega)
    have X:(f.ks.all fun k=>i7 k (d-1))=true:=D1X.2 fun k hk=>by
      obtain⟨j,L,rfl⟩:=List.getElem_of_mem hk;exact z j L (by omega)
    rw[X]at h;simp only[Bool.true_and]at h;unfold B35 at h;by_cases o1:f.op=1
    · rw[if_pos o1]at h
      repeat' (first|with_reducible apply D0w|simp only[go_sem,seval,o,e2,o1]|intro m)
      all_goals (refine D2O e ?_;simp_all)
    rw[if_neg o1]at h;by_cases o2:f.op=2
    · rw[if_pos o2]at h
      repeat' simp only[go_sem,seval,o,e2,o2]
      refine C8 [2,78,79] (fun(j:Nat)=>[(80,.int .i64 j)]) (fun(j:Nat)=>Bs) (fun(j:Nat)=>j≤f.l.t.length∧(f.l.t.all fun t=>plainB t.v)=((f.l.t.drop j).all fun t=>plainB t.v)) (fun(j:Nat)=>f.l.t.length-j) (0) (⟨D1H _,rfl⟩) (by(try simp only[go_sem,seval])<;>(try simp(disch:=omega) [A5])) (by first|exact D2N _|exact A0 (by assumption)|exact B4 (by assumption)|simp only[Heap.Le,Heap.set,Heap.del]at* <;>grind) ?_;rintro a6 rfl j ⟨L,p⟩;by_cases r:j<f.l.t.length
      · have q:decide ((j:Int)<f.l.t.length)=true:=D0y (by omega)
        have O:(j:Int)<f.l.t.length:=by omega
        have hst:=x.lin.str _ (D1A r);rw[D1R r,D1z]at p;have V:=fun(Q:D→Heap→Prop) (H:Heap)=>B07 (Q:=Q) f.l.t[j].v hst H;cases hp:plainB f.l.t[j].v with
        |false=>
          rw[hp]at V p;rw[p]at h;simp only[Bool.false_and]at h;repeat' (first|with_reducible apply D0w|simp only[go_sem,seval,q,O,B3 _ _ r,C3 _ _ r]|intro m|with_reducible refine V _ _ ?_|omega)
          exact D2O (by simp only[E3,D1,D2]at* <;>grind) h
        |true=>
          rw[hp]at V p;repeat' (first|with_reducible apply D0w|simp only[go_sem,seval,q,O,B3 _ _ r,C3 _ _ r]|simp(disch:=omega) only[A5,B3,C5]|intro m|with_reducible refine V _ _ ?_|omega)
          exact C4 (j+1) ⟨by omega,by simpa using p⟩ (by omega) (by(try simp only[go_sem,seval])<;>(try simp(disch:=omega) [A5])) (by simp only[E3,D1,D2]at* <;>grind)
      · have q:decide ((j:Int)<f.l.t.length)=false:=D0z (by omega)
        rw[List.drop_eq_nil_of_le (by omega),List.all_nil]at p;rw[p]at h;simp only[Bool.true_and]at h;repeat' (first|with_reducible apply D0w|simp only[go_sem,seval,q,e2]|intro m|with_reducible refine o9 f.l x.lin _ ?_)
        all_goals (refine D2O e ?_;simp_all)
    rw[if_neg o2]at h;by_cases o3:f.op=3
    · rw[if_pos o3]at h
      repeat' (first|with_reducible apply D0w|simp only[go_sem,seval,o,e2,o3]|intro m|with_reducible refine B07 f.s x.txt _ ?_)
      all_goals (refine D2O e ?_;simp_all)
    rw[if_neg o3]at h;by_cases W:f.op=4
    · rw[if_pos W]at h
      repeat' simp only[go_sem,seval,o,e2,W]
      all_goals (refine D2O e ?_;simp_all)
    rw[if_neg W]at h;repeat' (first|with_reducible apply D0w|simp only[go_sem,seval,o,e2,o1,o2,o3,W]|intro m)
    all_goals (refine D2O e ?_;simp_all)
theorem C0f{Q}(f:Fm)(d:FmFit f)(H:Heap)(h:Q (.bool (i7 f 60)) H):E6 57 [.agg (C1 f),.int .i64 60] H Q:=C0e _ f (D1G _) d 60 (by decide) (by decide) H h
theorem B36(n:Nat): ∀{Q} (f:Fm) (hn:SizeOf.sizeOf f≤n) (r:FmFit f) (hw:J4 f≤1000000) (H:Heap) (h:Q (.int .i64 (F6 f)) H),E6 58 [.agg (C1 f)] H Q:=by
 induction n with
 |zero=>intro Q f hn;cases f;simp at hn
 |succ n y=>
 intro Q f hn r hw H h;refine B2 [] A8 Tryz.func58 rfl ?_;simp only[go_sem,seval,Tryz.results58];have z:=r.kl;have A:=L9 f;intro q C;have e1:(H.set q (.box (C1 f))) q=some (.box (C1 f)):=A3 _ _;have o:H.Le (H.set q (.box (C1 f))):=A0 C;generalize H.set q (.box (C1 f))=Bs at e1 o⊢;repeat' (first|with_reducible apply D0w|simp only[go_sem,seval,e1]|simp(disch:=omega) only[A5,B3,C5,A2o]|intro u|omega)
 refine C8 [7,8] (fun(p:Nat×Int)=>[(9,.int .i64 p.1),(3,.int .i64 p.2)]) (fun(p:Nat×Int)=>Bs) (fun(p:Nat×Int)=>p.1≤f.ks.length∧p.2=1+F6.nodesL (f.ks.take p.1)) (fun(p:Nat×Int)=>f.ks.length-p.1) ((0,1)) (⟨D1H _,rfl⟩) (by(try simp only[go_sem,seval])<;>(try simp(disch:=omega) [A5])) (by first|exact D2N _|exact A0 (by assumption)|exact B4 (by assumption)|simp only[Heap.Le,Heap.set,Heap.del]at* <;>grind) ?_;rintro L rfl ⟨i,m⟩ ⟨G,g⟩;simp only at G g;by_cases d:i<f.ks.length
 ·have j:decide ((i:Int)<f.ks.length)=true:=D0y (by omega);have x:(i:Int)<f.ks.length:=by omega
  have hm:=D1A d;have w0:=B90 hm;have hs:=A2o f.ks i d;have hb:=B4x (f.ks.take i);have I:J4.wtL (f.ks.take i)≤J4.wtL f.ks:=by
   conv=>rhs;rw[←D1h i f.ks,A5g]
   omega
  have J:=A2n f.ks[i];repeat' (first|with_reducible apply D0w|simp only[go_sem,seval,j,x,B3 _ _ d,C3 _ _ d]|simp(disch:=omega) only[A5,B3,C5,A2o]|intro u|with_reducible refine y f.ks[i] (by have:=Q5 hm;omega) (r.kid hm) (by omega) _ ?_|omega)
  exact C4 (i+1,m+F6 f.ks[i]) ⟨by simp only[];omega,by simp only[];rw[hs];push_cast;omega⟩ (by simp only[];omega) (by(try simp only[go_sem,seval])<;>(try simp(disch:=omega) [A5])) (by simp only[E3,D1,D2]at* <;>grind)
 ·have j:decide ((i:Int)<f.ks.length)=false:=D0z (by omega);have e:F6 f=1+F6.nodesL f.ks:=B4w f;rw[D1B (by omega)]at g;have e2:m=(F6 f:Int):=by rw[g,e];push_cast;rfl
  rw[←e2]at h;repeat' simp only[go_sem,seval,j]
  exact D2O o h
theorem B8H(n:Nat): ∀{Q} (f:Fm) (hn:SizeOf.sizeOf f≤n) (A:FmFit f) (a b:List ByteArray) (hw:J4 f+a.length+b.length≤2000000) (H:Heap) (h:Q (.tuple [nsD ((E4 f).foldl H7 a),nsD ((D0 f).foldl H7 b)]) H),E6 48 [.agg (C1 f),nsD a,nsD b] H Q:=by
 induction n with
 |zero=>intro Q f hn;cases f;simp at hn
 |succ n O=>
 intro Q f hn A a b hw H h;refine B2 [(8,.wk)] A8 Tryz.func48 rfl ?_;simp only[go_sem,seval,Tryz.results48];have T:=A.kl;have U:=A.lin.len;have V:=L9 f;rw[B7B,B4y,D1o,D1o]at h;intro o W;have e3:(H.set o (.box (C1 f))) o=some (.box (C1 f)):=A3 _ _;have q:H.Le (H.set o (.box (C1 f))):=A0 W;generalize H.set o (.box (C1 f))=Bs at e3 q⊢;repeat' (first|with_reducible apply D0w|simp only[go_sem,seval,e3]|simp(disch:=omega) only[A5,B3,A4k,C5,A0T,a8]|intro u|omega)
 refine C8 [2,3,14,15] (fun(p:Nat×List ByteArray)=>[(16,.int .i64 p.1),(1,nsD p.2)]) (fun(p:Nat×List ByteArray)=>Bs) (fun(p:Nat×List ByteArray)=>p.1≤f.l.t.length∧p.2=((f.l.t.take p.1).map (·.v)).foldl H7 a) (fun(p:Nat×List ByteArray)=>f.l.t.length-p.1) ((0,a)) (⟨D1H _,rfl⟩) (by(try simp only[go_sem,seval])<;>(try simp(disch:=omega) [A5])) (by first|exact D2N _|exact A0 (by assumption)|exact B4 (by assumption)|simp only[Heap.Le,Heap.set,Heap.del]at* <;>grind) ?_;rintro Ec rfl ⟨i,r⟩ ⟨X,hr⟩;simp only at X hr;by_cases m:i<f.l.t.length
 ·have g:decide ((i:Int)<f.l.t.length)=true:=D0y (by omega);have G:(i:Int)<f.l.t.length:=by omega
  have hb:=Z8 ((f.l.t.take i).map (·.v)) a;rw[←hr,D1f,D1e]at hb;repeat' (first|with_reducible apply D0w|simp only[go_sem,seval,g,G,B3 _ _ m,C3 _ _ m]|simp(disch:=omega) only[A5,B3,A4k,C5,A0T,a8]|intro u|with_reducible refine B3c r (by omega) _ _ ?_|omega)
  exact C4 (i+1,H7 r f.l.t[i].v) ⟨by simp only[];omega,by simp only[];rw[D1F m,D1w,D1o,←hr];rfl⟩ (by simp only[];omega) (by(try simp only[go_sem,seval])<;>(try simp(disch:=omega) [A5])) (by simp only[E3,D1,D2]at* <;>grind)
 ·have g:decide ((i:Int)<f.l.t.length)=false:=D0z (by omega);rw[D1B (by omega)]at hr;have hb:=Z8 (f.l.t.map (·.v)) a;rw[←hr,D1f]at hb;rw[←hr]at h;obtain⟨c,hc⟩: ∃c,c=(if f.op=3 then [f.s]else []).foldl H7 b:=⟨_,rfl⟩
  rw[←hc]at h;have Y:c.length≤b.length+1:=by
   rw[hc];split
   ·exact A7s _ _
   ·simp
  apply Z4 (C:=True)
  ·intro M;by_cases o3:f.op=3
   ·rw[if_pos o3]at hc;have hc:c=H7 b f.s:=hc;repeat' (first|simp only[go_sem,seval,g,e3,o3]|with_reducible refine B3c b (by omega) f.s _ ?_)
    rw[←hc];exact O5 [(1,nsD r),(2,nsD c),(3,.box o 0)] Bs (by simp only[go_sem,seval]) (D2N _) (M trivial)
   ·rw[if_neg o3]at hc;have hc:c=b:=hc;repeat' simp only[go_sem,seval,g,e3,o3]
    rw[←hc];exact O5 [(1,nsD r),(2,nsD c),(3,.box o 0)] Bs (by simp only[go_sem,seval]) (D2N _) (M trivial)
  intro _;repeat' simp only[go_sem,seval,e3]
  refine C8 [33,34] (fun(p:Nat×List ByteArray×List ByteArray)=>[(35,.int .i64 p.1),(1,nsD p.2.1),(2,nsD p.2.2)]) (fun(p:Nat×List ByteArray×List ByteArray)=>Bs) (fun(p:Nat×List ByteArray×List ByteArray)=>p.1≤f.ks.length∧p.2.1=(E4.intsL (f.ks.take p.1)).foldl H7 r∧p.2.2=(D0.boolsL (f.ks.take p.1)).foldl H7 c) (fun(p:Nat×List ByteArray×List ByteArray)=>f.ks.length-p.1) ((0,r,c)) (⟨D1H _,rfl,rfl⟩) (by(try simp only[go_sem,seval])<;>(try simp(disch:=omega) [A5])) (by first|exact D2N _|exact A0 (by assumption)|exact B4 (by assumption)|simp only[Heap.Le,Heap.set,Heap.del]at* <;>grind) ?_;rintro a0 rfl ⟨j,x,y⟩ ⟨hj,hx,z⟩;simp only at hj hx z;by_cases d:j<f.ks.length
  ·have e:decide ((j:Int)<f.ks.length)=true:=D0y (by omega);have I:(j:Int)<f.ks.length:=by omega
   have hm:=D1A d;have J:=Z8 (E4.intsL (f.ks.take j)) r;have L:=Z8 (D0.boolsL (f.ks.take j)) c;rw[←hx]at J;rw[←z]at L;have a4:=B40 (f.ks.take j);have a5:J4.wtL f.ks=J4.wtL (f.ks.take j)+J4.wtL (f.ks.drop j):=by
    conv=>lhs;rw[←D1h j f.ks,A5g]
   have a6:=A4k f.ks j d;repeat' (first|with_reducible apply D0w|simp only[go_sem,seval,e,I,B3 _ _ d,C3 _ _ d]|simp(disch:=omega) only[A5,B3,A4k,C5,A0T,a8]|intro u|with_reducible refine O f.ks[j] (by have:=Q5 hm;omega) (A.kid hm) x y (by omega) _ ?_|omega)
   refine C4 (j+1,(E4 f.ks[j]).foldl H7 x,(D0 f.ks[j]).foldl H7 y) ⟨by simp only[];omega,?_,?_⟩ (by simp only[];omega) (by(try simp only[go_sem,seval])<;>(try simp(disch:=omega) [A5])) (by simp only[E3,D1,D2]at* <;>grind)
   ·simp only[];rw[A0T _ _ d,D1o,←hx]
   ·simp only[];rw[a8 _ _ d,D1o,←z]
  ·have e:decide ((j:Int)<f.ks.length)=false:=D0z (by omega);rw[D1B (by omega)]at hx z;rw[←hx,←z]at h;repeat' simp only[go_sem,seval,e]
   exact D2O q h
theorem B1N{Q}(f:Fm)(g:FmFit f)(hw:J4 f≤1000000)(H:Heap)(h:Q (.tuple [.sl 1 (Rw I6 (ivF f)),.sl 1 (Rw I6 (bvF f))]) H):E6 48 [.agg (C1 f),.nilsl,.nilsl] H Q:=
 ACalls.fin (B8H _ f (D1G _) g [] [] (by simp;omega) H (D9 (d':=.tuple [.sl 1 (Rw I6 (ivF f)),.sl 1 (Rw I6 (bvF f))]) (.tuple _ _ rfl fun i d d' h1 e=>(match i,h1,e with
  |0,h1,e=>by cases h1;cases e;exact A8x _
  |1,h1,e=>by cases h1;cases e;exact A8x _
  |i+2,h1,e=>by cases h1)) (D2R h)))
theorem C4W{Q}(l m:List ByteArray)(hl:l.length≤1000000000)(hm:m.length≤1000000000)(H:Heap)(h:Q (.bool (meetL l m)) H):E6 59 [.sl 1 (Rw I6 l),.sl 1 (Rw I6 m)] H Q:=by
 refine B2 [] A8 Tryz.func59 rfl ?_;simp only[go_sem,seval,Tryz.results59];repeat' (first|with_reducible apply D0w|simp only[go_sem,seval]|simp(disch:=omega) only[A5,B3,C5]|intro M|omega)
 refine C8 [1,9,10] (fun(i:Nat)=>[(11,.int .i64 i)]) (fun(i:Nat)=>H) (fun(i:Nat)=>i≤l.length∧∀(j:Nat) (G:j<l.length),j<i→l[j]∉m) (fun(i:Nat)=>l.length-i) (0) (⟨D1H _,fun _ _ h=>absurd h (D2C _)⟩) (by(try simp only[go_sem,seval])<;>(try simp(disch:=omega) [A5])) (by first|exact D2N _|exact A0 (by assumption)|exact B4 (by assumption)|simp only[Heap.Le,Heap.set,Heap.del]at* <;>grind) ?_;rintro V rfl i ⟨W,p⟩;by_cases r:i<l.length
 ·have u:decide ((i:Int)<l.length)=true:=D0y (by omega);have I:(i:Int)<l.length:=by omega
  repeat' (first|with_reducible apply D0w|simp only[go_sem,seval,u,I,B3 _ _ r,C3 _ _ r]|omega)
  refine C8 [1,6,9,10,11,15,16] (fun(j:Nat)=>[(17,.int .i64 j)]) (fun(j:Nat)=>H) (fun(j:Nat)=>j≤m.length∧∀(k:Nat) (hk:k<m.length),k<j→m[k]≠l[i]) (fun(j:Nat)=>m.length-j) (0) (⟨D1H _,fun _ _ h=>absurd h (D2C _)⟩) (by(try simp only[go_sem,seval])<;>(try simp(disch:=omega) [A5])) (by first|exact D2N _|exact A0 (by assumption)|exact B4 (by assumption)|simp only[Heap.Le,Heap.set,Heap.del]at* <;>grind) ?_;rintro O rfl j ⟨G,z⟩;by_cases o:j<m.length
  ·have d:decide ((j:Int)<m.length)=true:=D0y (by omega);have A:(j:Int)<m.length:=by omega
   by_cases q:l[i]=m[j]
   ·have J:decide (B l[i]=B m[j])=true:=D0y (by rw[q]);have y:meetL l m=true:=(A1I _ _).2 ⟨_,D1A r,q ▸ D1A o⟩;rw[y]at h;repeat' (first|with_reducible apply D0w|simp only[go_sem,seval,d,A,B3 _ _ o,C3 _ _ o,J]|omega)
    exact D2R h
   ·have J:decide (B l[i]=B m[j])=false:=D0z fun e=>q (Y5 e);repeat' (first|with_reducible apply D0w|simp only[go_sem,seval,d,A,B3 _ _ o,C3 _ _ o,J]|simp(disch:=omega) only[A5,B3,C5]|omega)
    refine C4 (j+1) ⟨by omega,fun k hk T=>?_⟩ (by omega) (by(try simp only[go_sem,seval])<;>(try simp(disch:=omega) [A5])) (D2N _);rcases Nat.lt_or_ge k j with g|g
    ·exact z k hk g
    ·have:k=j:=by omega
     subst this;exact fun e=>q e.symm
  ·have d:decide ((j:Int)<m.length)=false:=D0z (by omega);repeat' (first|simp only[go_sem,seval,d]|simp(disch:=omega) only[A5,B3,C5])
   refine C4 (i+1) ⟨by omega,fun k hk U=>?_⟩ (by omega) (by(try simp only[go_sem,seval])<;>(try simp(disch:=omega) [A5])) (D2N _);rcases Nat.lt_or_ge k i with g|g
   ·exact p k hk g
   ·have:k=i:=by omega
    subst this;intro C;obtain⟨q,hq,e⟩:=List.getElem_of_mem C;exact z q hq (by omega) e
 ·have u:decide ((i:Int)<l.length)=false:=D0z (by omega);have y:meetL l m=false:=by
   rw[←D2I,A1I];rintro⟨x,hx,L⟩;obtain⟨j,G,rfl⟩:=List.getElem_of_mem hx;exact p j G (by omega) L
  rw[y]at h;repeat' simp only[go_sem,seval,u]
  exact D2R h
theorem A36{Q}(f:Fm)(j:FmFit f)(x:VOk f)(H:Heap)(h:Q (.bool (E7 f)) H):E6 19 [.agg (C1 f)] H Q:=by
 refine B2 [] A8 Tryz.func19 rfl ?_;simp only[go_sem,seval,Tryz.results19];have o:E7 f=(i7 f 60&&decide (F6 f≤200)&& !meetL (ivF f) (bvF f)&&decide ((ivF f).length+(bvF f).length≤12)):=by
  rw[y9];unfold i7;rw[show decide ((O6 f:Int)≤60)=decide (O6 f≤60)from D1Z.2 (by omega)];cases G9 D8 f<;>cases decide (O6 f≤60)<;>rfl
 rw[o]at h;intro m h1;have e1:(H.set m (.box (C1 f))) m=some (.box (C1 f)):=A3 _ _;have d:H.Le (H.set m (.box (C1 f))):=A0 h1;generalize H.set m (.box (C1 f))=Bs at e1 d⊢;have e:=fun(Q:D→Heap→Prop) (H:Heap)=>C0f (Q:=Q) f j H;cases hs:i7 f 60 with
 |false=>
  rw[hs]at h e;simp only[Bool.false_and]at h;repeat' (first|simp only[go_sem,seval,e1]|with_reducible refine e _ _ ?_)
  exact D2O d h
 |true=>
  have i:G9 D8 f=true:=by unfold i7 at hs;rw[D09]at hs;exact hs.2
  have hw:J4 f≤1000000:=by
   rcases x with g|g
   ·exact g
   ·rw[i]at g;cases g
  have y:=A2n f;have z:=A3x f;have A:(ivF f).length≤1000000:=by have:=Z8 (E4 f) [];unfold ivF upS;simp at this;omega
  have C:(bvF f).length≤1000000:=by have:=Z8 (D0 f) [];unfold bvF upS;simp at this;omega
  rw[hs]at h e;simp only[Bool.true_and]at h;have p:decide ((ivF f).length+(bvF f).length≤12)=decide (((ivF f).length:Int)+(bvF f).length≤12):=D1Z.2 (by omega);rw[p]at h;by_cases q:F6 f≤200
  ·have r: ¬(200:Int)<F6 f:=by omega
   rw[D0y q]at h;simp only[Bool.true_and]at h;have u:=fun(Q:D→Heap→Prop) (H:Heap)=>C4W (Q:=Q) (ivF f) (bvF f) (by omega) (by omega) H;generalize meetL (ivF f) (bvF f)=I at h u;repeat' (first|with_reducible apply D0w|simp only[go_sem,seval,e1,r]|simp(disch:=omega) only[A5,C5]|intro G|with_reducible refine e _ _ ?_|with_reducible refine B36 _ f (D1G _) j hw _ ?_|with_reducible refine B1N f j hw _ ?_|with_reducible refine u _ _ ?_)
   all_goals (refine D2O d ?_;simp_all)
  ·have r:(200:Int)<F6 f:=by omega
   rw[D0z q]at h;simp only[Bool.false_and]at h;repeat' (first|simp only[go_sem,seval,e1,r]|with_reducible refine e _ _ ?_|with_reducible refine B36 _ f (D1G _) j hw _ ?_)
   all_goals exact D2O d h
theorem C0g{Q}(f:Fm)(p:FmFit f)(q:VOk f)(H:Heap)(h:Q (if E7 f=true then .tuple [.sl 1 (Rw I6 (ivF f)),.sl 1 (Rw I6 (bvF f)),.int .i64 0]else .tuple [.sl 1 [],.sl 1 [],.int .i64 2]) H):E6 15 [.agg (C1 f)] H Q:=by
 refine B2 [] A8 Tryz.func15 rfl ?_;simp only[go_sem,seval,Tryz.results15];intro j h1;have e1:(H.set j (.box (C1 f))) j=some (.box (C1 f)):=A3 _ _;have e:H.Le (H.set j (.box (C1 f))):=A0 h1;generalize H.set j (.box (C1 f))=Bs at e1 e⊢;have m:=fun(Q:D→Heap→Prop) (H:Heap)=>A36 (Q:=Q) f p q H;cases hv:E7 f with
 |false=>
  rw[hv]at h m;simp only[D1C,if_false]at h;repeat' (first|simp only[go_sem,seval,e1]|with_reducible refine m _ _ ?_)
  refine D9 (d':=.tuple [.sl 1 [],.sl 1 [],.int .i64 2]) (.tuple _ _ rfl fun i d d' h1 o=>?_) (D2O e h)
  match i with
  |0=>cases h1;cases o;exact .nil 1
  |1=>cases h1;cases o;exact .nil 1
  |2=>cases h1;cases o;exact .same _
  |i+3=>cases h1
 |true=>
  rw[hv]at h m;simp only[if_true]at h;have hw:J4 f≤1000000:=by
   rcases q with g|g
   ·exact g
   ·rw[K1 hv]at g;cases g
  repeat' (first|simp only[go_sem,seval,e1]|with_reducible refine m _ _ ?_|with_reducible refine B1N f p hw _ ?_)
  exact D2O e h
theorem B8I{Q}(vs:List VlV)(k:Fm)(b:Nat)(H:Heap)(hb:H b=some (.box [.sl 2 (Rw vlC vs)]))(j: ∀(Q:D→Heap→Prop) (H:Heap),Q (.bool (Q7 k vs)) H→E6 63 [.agg (C1 k),.sl 2 (Rw vlC vs)] H Q)(h:Q (.bool (!Q7 k vs)) H):E6 109 [.agg (C1 k),.box b 0] H Q:=by
 refine B2 [] A8 Tryz.func109 rfl ?_;simp only[go_sem,seval,Tryz.results109];intro d i;have n2:b≠d:=fun e=>by rw[←e,hb]at i;cases i
 have e1:(H.set d (.box (C1 k))) b=some (.box [.sl 2 (Rw vlC vs)]):=by rw[A4 _ n2];exact hb
 have e2:(H.set d (.box (C1 k))) d=some (.box (C1 k)):=A3 _ _;have g:H.Le (H.set d (.box (C1 k))):=A0 i;generalize H.set d (.box (C1 k))=Bs at e1 e2 g⊢;repeat' (first|simp only[go_sem,seval,e1,e2]|with_reducible refine j _ _ ?_)
 exact D2O g h
theorem B8J{Q}(vs:List VlV)(k:Fm)(b:Nat)(H:Heap)(hb:H b=some (.box [.sl 2 (Rw vlC vs)]))(j: ∀(Q:D→Heap→Prop) (H:Heap),Q (.bool (Q7 k vs)) H→E6 63 [.agg (C1 k),.sl 2 (Rw vlC vs)] H Q)(h:Q (.bool (Q7 k vs)) H):E6 110 [.agg (C1 k),.box b 0] H Q:=by
 refine B2 [] A8 Tryz.func110 rfl ?_;simp only[go_sem,seval,Tryz.results110];intro d i;have n2:b≠d:=fun e=>by rw[←e,hb]at i;cases i
 have e1:(H.set d (.box (C1 k))) b=some (.box [.sl 2 (Rw vlC vs)]):=by rw[A4 _ n2];exact hb
 have e2:(H.set d (.box (C1 k))) d=some (.box (C1 k)):=A3 _ _;have g:H.Le (H.set d (.box (C1 k))):=A0 i;generalize H.set d (.box (C1 k))=Bs at e1 e2 g⊢;repeat' (first|simp only[go_sem,seval,e1,e2]|with_reducible refine j _ _ ?_)
 exact D2O g h
theorem B8K(l:List Fm)(p:Fm→Bool):(!l.any fun k=> !p k)=l.all p:=by
 induction l with
 |nil=>rfl
 |cons x l d=>rw[D11,D1z,←d];cases p x<;>simp
theorem C0h(vs:List VlV)(I:A7S vs)(hv:N7 vs=true)(n:Nat): ∀{Q} (f:Fm) (hn:SizeOf.sizeOf f≤n) (r:G9 D8 f=true) (u:FmFit f) (H:Heap) (h:Q (.bool (Q7 f vs)) H),E6 63 [.agg (C1 f),.sl 2 (Rw vlC vs)] H Q:=by
 induction n with
 |zero=>intro Q f hn;cases f;simp at hn
 |succ n J=>
 intro Q f hn r u H h;refine B2 [] A8 Tryz.func63 rfl ?_;simp only[go_sem,seval,Tryz.results63];have q:=u.kl;have L:=I.len;have g: ∀k∈f.ks,∀(Q:D→Heap→Prop) (H:Heap),Q (.bool (Q7 k vs)) H→E6 63 [.agg (C1 k),.sl 2 (Rw vlC vs)] H Q:=fun k hk Q H hq=>J k (by have:=Q5 hk;omega) (K7 r hk) (u.kid hk) H hq;intro p M j x;simp only[A6]at x;have y:p≠j:=fun e=>x.1 e.symm;have e2:((H.set p (.box (C1 f))).set j (.box [.sl 2 (Rw vlC vs)])) p=some (.box (C1 f)):=by rw[A4 _ y,A3]
 have e3:((H.set p (.box (C1 f))).set j (.box [.sl 2 (Rw vlC vs)])) j=some (.box [.sl 2 (Rw vlC vs)]):=A3 _ _;have i:H.Le ((H.set p (.box (C1 f))).set j (.box [.sl 2 (Rw vlC vs)])):=(A0 M).trans (A0 (by simp only[A6];exact x));generalize (H.set p (.box (C1 f))).set j (.box [.sl 2 (Rw vlC vs)])=Bs at e2 e3 i⊢;cases S1 r with
 |con m hm=>
  rw[C9f _ rfl]at h;simp only[Fm.n]at h;repeat' simp only[go_sem,seval,e2]
  exact D2O i h
 |lin l hl hp=>
  rw[C9g _ rfl]at h;simp only[Fm.l]at h;obtain⟨T,K,E⟩:=l;have C:=fun(Q:D→Heap→Prop) (H:Heap)=>B9s (Q:=Q) ⟨T,K,E⟩ hl vs hv (by omega) H;generalize (U5 K T vs).getD 0=z at h C;unfold B15 at h;repeat' (first|with_reducible apply D0w|simp only[go_sem,seval,e2,e3]|(intro A;try simp only[A6]at A)|with_reducible refine C _ _ ?_)
  all_goals (refine D2O i ?_;simp_all)
 |var s hp=>
  rw[C9h _ rfl]at h;simp only[Fm.s]at h;repeat' (first|simp only[go_sem,seval,e2,e3]|with_reducible refine B0n vs hv s (by omega) _ ?_)
  exact D2O i h
 |not k=>
  rw[C9i _ rfl rfl]at h;have O:(Rw C1 [k]).getD 0 []=C1 k:=rfl;have U:=g k (D07 ..);repeat' (first|with_reducible apply D0w|simp only[go_sem,seval,e2,e3,O]|with_reducible refine U _ _ ?_|omega)
  all_goals first
   |exact D2O i h
   |decide
   |omega
 |and ks=>
  rw[C9j _ rfl]at h;simp only[Fm.ks]at h g q;have V:=A85 (Q:=fun d G=>d= .bool (ks.any fun k=> !Q7 k vs)∧G=Bs) (fun k=> !Q7 k vs) ks (by omega) 109 [] [.box j 0] Bs (fun k hk _ Q hq=>B8I vs ks[k] j Bs e3 (g _ (D1A hk)) hq) ⟨rfl,rfl⟩;have o: ∀(Q:D→Heap→Prop),Q (.bool (ks.any fun k=> !Q7 k vs)) Bs→E6 108 [.sl 7 (Rw C1 ks),.fn (.func 109) [] [.box j 0]] Bs Q:=fun Q hq=>V.mono fun d G ⟨h1,W⟩=>by rw[h1,W];exact hq
  rw[←B8K]at h;repeat' (first|simp only[go_sem,seval,e2,e3]|with_reducible refine o _ ?_)
  exact D2O i h
 |or ks=>
  rw[C9k _ rfl]at h;simp only[Fm.ks]at h g q;have o:=fun(Q:D→Heap→Prop)=>A85 (Q:=Q) (fun k=>Q7 k vs) ks (by omega) 110 [] [.box j 0] Bs (fun k hk _ Q hq=>B8J vs ks[k] j Bs e3 (g _ (D1A hk)) hq);repeat' (first|simp only[go_sem,seval,e2,e3]|with_reducible refine o _ ?_)
  exact D2O i h
theorem C0i{Q}(vs:List VlV)(d:A7S vs)(hv:N7 vs=true)(f:Fm)(e:G9 D8 f=true)(g:FmFit f)(H:Heap)(h:Q (.bool (Q7 f vs)) H):E6 63 [.agg (C1 f),.sl 2 (Rw vlC vs)] H Q:=C0h vs d hv _ f (D1G _) e g H h
theorem C9m{Q}(f:Fm)(fa:FmFit f)(vo:VOk f)(vs:List VlV)(fv:A7S vs)(H:Heap)(h:Q (.tuple [.bool (atF f vs).1,.int .i64 (atF f vs).2]) H):E6 22 [.agg (C1 f),.sl 2 (Rw vlC vs)] H Q:=by
 refine B2 [] A8 Tryz.func22 rfl ?_;simp only[go_sem,seval,Tryz.results22];have c7:=fv.len;intro O g2;have e2:(H.set O (.box (C1 f))) O=some (.box (C1 f)):=A3 _ _;have J:H.Le (H.set O (.box (C1 f))):=A0 g2;generalize H.set O (.box (C1 f))=Bs at e2 J⊢;have W:=fun(Q:D→Heap→Prop) (H:Heap)=>Q6 (Q:=Q) f fa vo H;have wc:=fun(Q:D→Heap→Prop) (H:Heap)=>B6q (Q:=Q) vs fv H;unfold atF at h;cases hf:E7 f with
 |false=>
  rw[hf]at h W;simp only[D1C,false_and,if_false]at h;repeat' (first|simp only[go_sem,seval,e2]|with_reducible refine W _ _ ?_)
  exact D2O J h
 |true=>
  cases hv:N7 vs with
  |false=>
   rw[hf]at h W;rw[hv]at h wc;simp only[D1C,and_false,if_false]at h;repeat' (first|simp only[go_sem,seval,e2]|with_reducible refine W _ _ ?_|with_reducible refine wc _ _ ?_)
   exact D2O J h
  |true=>
   rw[hf]at h W;rw[hv]at h wc;simp only[and_self,if_true]at h;have b1: ∀m,(D.fm m).cells= [D.fm m]:=fun _=>rfl;repeat' (first|simp only[go_sem,seval,e2,b1]|intro o|with_reducible refine W _ _ ?_|with_reducible refine wc _ _ ?_|with_reducible refine A33 (by assumption) f fa rfl ?_)
   rename_i y;have T:=o;clear o;have u:H.Le (Bs.set y (.vec 1 [[.fm (D4 tt (J8 (E4 f)))],[.fm (D4 tt (J8 (D0 f)))]])):=J.trans (A0 T);have n2:O≠y:=fun e=>by rw[←e,e2]at T;cases T
   have c2:(Bs.set y (.vec 1 [[.fm (D4 tt (J8 (E4 f)))],[.fm (D4 tt (J8 (D0 f)))]])) O=some (.box (C1 f)):=by rw[A4 _ n2];exact e2
   have a0:(Bs.set y (.vec 1 [[.fm (D4 tt (J8 (E4 f)))],[.fm (D4 tt (J8 (D0 f)))]])) y=some (.vec 1 [[.fm (D4 tt (J8 (E4 f)))],[.fm (D4 tt (J8 (D0 f)))]]):=A3 _ _;generalize Bs.set y (.vec 1 [[.fm (D4 tt (J8 (E4 f)))],[.fm (D4 tt (J8 (D0 f)))]])=Cs at c2 a0 u⊢;refine C8 [1,2,7,32,33] (fun(j:Nat)=>[(34,.int .i64 j)]) (fun(j:Nat)=>Cs) (fun(j:Nat)=>j≤2∧(0<j→∀s∈E4 f,(P6 vs s).isSome=true)∧(1<j→∀s∈D0 f,(P6 vs s).isSome=true)) (fun(j:Nat)=>2-j) (0) (⟨D1H _,fun h=>absurd h (by decide),fun h=>absurd h (by decide)⟩) (by(try simp only[go_sem,seval])<;>(try simp(disch:=omega) [A5])) (by first|exact D2N _|exact A0 (by assumption)|exact B4 (by assumption)|simp only[Heap.Le,Heap.set,Heap.del]at* <;>grind) ?_;rintro Ec rfl j ⟨hj,a4,b3⟩;by_cases b4:j<2
   ·have U:decide ((j:Int)<2)=true:=D0y (by omega);have b6:(j:Int)<2:=by omega
    obtain⟨ks,G,a5,b7,b8⟩: ∃ks:List ByteArray,([[D.fm (D4 tt (J8 (E4 f)))],[.fm (D4 tt (J8 (D0 f)))]]).getD j []= [.fm (D4 tt ks)]∧([[D.fm (D4 tt (J8 (E4 f)))],[.fm (D4 tt (J8 (D0 f)))]])[j]? =some [.fm (D4 tt ks)]∧
      ((∀s∈ks,(P6 vs s).isSome=true)→(0<j+1→∀s∈E4 f,(P6 vs s).isSome=true)∧(1<j+1→∀s∈D0 f,(P6 vs s).isSome=true))∧(∀s∈ks,(P6 vs s).isSome=false→A6n f vs=false):=by
     match j,b4 with
     |0,_=>exact⟨J8 (E4 f),rfl,rfl,fun h=>⟨fun _ s hs=>h s ((G5 _ _).2 hs),fun h=>absurd h (by decide)⟩,fun s hs hn=>by
       rw[←D2I,A4p];intro g;rw[g s (.inl ((G5 _ _).1 hs))]at hn;cases hn⟩
     |1,_=>exact⟨J8 (D0 f),rfl,rfl,fun h=>⟨fun _=>a4 (by decide),fun _ s hs=>h s ((G5 _ _).2 hs)⟩,fun s hs hn=>by
       rw[←D2I,A4p];intro g;rw[g s (.inr ((G5 _ _).1 hs))]at hn;cases hn⟩
    have r:(D4 tt ks).length=ks.length:=by simp[D4]
    repeat' (first|with_reducible apply D0w|simp only[go_sem,seval,U,b6,a0,G,a5]|intro o|omega)
    rename_i A;have a6:=o;clear o;refine C8 [1,2,7,32,33,34,39] (fun(s:List Nat)=>[]) (fun(s:List Nat)=>Cs.set A (.rng (D4 tt ks) s)) (fun(s:List Nat)=>∀(i:Nat) (d:i<ks.length),i∈s→(P6 vs ks[i]).isSome=true) (fun(s:List Nat)=>A6j ks.length s) ([]) (fun _ _ h=>absurd h D1P) (by simp only[go_sem,seval]) (by first|exact D2N _|exact A0 (by assumption)|exact B4 (by assumption)|simp only[Heap.Le,Heap.set,Heap.del]at* <;>grind) ?_;rintro b9 rfl s hs;have c0:(Cs.set A (.rng (D4 tt ks) s)) A=some (.rng (D4 tt ks) s):=A3 _ _;repeat' simp only[go_sem,seval,c0]
    refine A8b (fun i d hn=>?_) (fun I=>?_)
    ·rw[r]at d;have X:((Cs.set A (.rng (D4 tt ks) s)).set A (.rng (D4 tt ks) (s++[i]))) A=some (.rng (D4 tt ks) (s++[i])):=A3 _ _;have Y:(D4 tt ks)[i]? =some (.str ks[i],.bool true):=by simp[D4,d]
     have C:(D4 tt ks)[i]'(by rw[r];exact d)=(.str ks[i],.bool true):=by simp[D4]
     have L:=fun(Q:D→Heap→Prop) (H:Heap)=>B0n (Q:=Q) vs hv ks[i] (by omega) H;cases hg:(P6 vs ks[i]).isSome with
     |true=>
      rw[hg]at L;repeat' (first|simp only[go_sem,seval,X,Y,C,List.getLast?_concat]|with_reducible refine L _ _ ?_)
      refine C4 (s++[i]) (fun q hq hm=>?_) (A2P d hn) (by simp only[go_sem,seval]) (D2N _);rcases D1M.1 hm with z|z
      ·exact hs q hq z
      ·rw[D1N]at z;subst z;exact hg
     |false=>
      rw[hg]at L;rw[b8 _ (D1A d) hg]at h;simp only[D1C,if_false]at h;repeat' (first|simp only[go_sem,seval,X,Y,C,List.getLast?_concat]|with_reducible refine L _ _ ?_)
      refine D2O ?_ h;refine u.trans ?_;exact A0 a6
    ·have c1: ∀s∈ks,(P6 vs s).isSome=true:=fun x hx=>by
      obtain⟨i,d,rfl⟩:=List.getElem_of_mem hx;exact hs i d (I i (by rw[r];exact d))
     repeat' (first|simp only[go_sem,seval]|simp(disch:=omega) only[A5,C5])
     exact C4 (j+1) ⟨by omega,b7 c1⟩ (by omega) (by(try simp only[go_sem,seval])<;>(try simp(disch:=omega) [A5])) (A0 a6)
   ·have U:decide ((j:Int)<2)=false:=D0z (by omega);have c3:A6n f vs=true:=(A4p f vs).2 fun s hs=>hs.elim (a4 (by omega) s) (b3 (by omega) s);rw[c3]at h;simp only[if_true]at h;obtain⟨ks,G⟩: ∃ks,ks=J8 (D0 f):=⟨_,rfl⟩
    have r:(D4 tt ks).length=ks.length:=by simp[D4]
    rw[←G];repeat' (first|with_reducible apply D0w|simp only[go_sem,seval,U]|intro o|omega)
    rename_i p;have M:=o;clear o;refine C8 [1,2,54] (fun(s:List Nat)=>[]) (fun(s:List Nat)=>Cs.set p (.rng (D4 tt ks) s)) (fun(s:List Nat)=>∀(i:Nat) (d:i<ks.length),i∈s→((P6 vs ks[i]).getD 0=0∨(P6 vs ks[i]).getD 0=1)) (fun(s:List Nat)=>A6j ks.length s) ([]) (fun _ _ h=>absurd h D1P) (by simp only[go_sem,seval]) (by first|exact D2N _|exact A0 (by assumption)|exact B4 (by assumption)|simp only[Heap.Le,Heap.set,Heap.del]at* <;>grind) ?_;rintro b9 rfl s hs;have c4:(Cs.set p (.rng (D4 tt ks) s)) p=some (.rng (D4 tt ks) s):=A3 _ _;have c5:O≠p:=fun e=>by rw[←e,c2]at M;cases M
    have a7:(Cs.set p (.rng (D4 tt ks) s)) O=some (.box (C1 f)):=by rw[A4 _ c5];exact c2
    repeat' simp only[go_sem,seval,c4]
    refine A8b (fun i d hn=>?_) (fun I=>?_)
    ·rw[r]at d;have X:((Cs.set p (.rng (D4 tt ks) s)).set p (.rng (D4 tt ks) (s++[i]))) p=some (.rng (D4 tt ks) (s++[i])):=A3 _ _;have Y:(D4 tt ks)[i]? =some (.str ks[i],.bool true):=by simp[D4,d]
     have C:(D4 tt ks)[i]'(by rw[r];exact d)=(.str ks[i],.bool true):=by simp[D4]
     have L:=fun(Q:D→Heap→Prop) (H:Heap)=>B0n (Q:=Q) vs hv ks[i] (by omega) H;obtain⟨v,V⟩: ∃v,v=(P6 vs ks[i]).getD 0:=⟨_,rfl⟩
     rw[←V]at L;have a9:(v=0∨v=1)→∀(j:Nat) (hj:j<ks.length),j∈s++[i]→((P6 vs ks[j]).getD 0=0∨(P6 vs ks[j]).getD 0=1):=fun b0 q hq hm=>by
      rcases D1M.1 hm with z|z
      ·exact hs q hq z
      ·rw[D1N]at z;subst z;rw[←V];exact b0
     by_cases v0:v=0
     ·repeat' (first|simp only[go_sem,seval,X,Y,C,List.getLast?_concat,v0]|with_reducible refine L _ _ ?_)
      exact C4 (s++[i]) (a9 (.inl v0)) (A2P d hn) (by simp only[go_sem,seval]) (by simp only[E3,D1,D2]at* <;>grind)
     ·by_cases v1:v=1
      ·repeat' (first|simp only[go_sem,seval,X,Y,C,List.getLast?_concat,v1]|with_reducible refine L _ _ ?_)
       exact C4 (s++[i]) (a9 (.inr v1)) (A2P d hn) (by simp only[go_sem,seval]) (by simp only[E3,D1,D2]at* <;>grind)
      ·have hb:Go.Fo.bits f vs=false:=by
        rw[←D2I,B1C];intro g;have:=g ks[i] ((G5 _ _).1 (by rw[←G];exact D1A d));rw[←V]at this;omega
       rw[hb]at h;simp only[D1C,if_false]at h;repeat' (first|simp only[go_sem,seval,X,Y,C,List.getLast?_concat,v0,v1]|with_reducible refine L _ _ ?_)
       refine D2O ?_ h;refine u.trans ?_;exact A0 M
    ·have hb:Go.Fo.bits f vs=true:=(B1C f vs).2 fun x hx=>by
      have c6:x∈ks:=by rw[G];exact(G5 _ _).2 hx
      obtain⟨i,d,rfl⟩:=List.getElem_of_mem c6;exact hs i d (I i (by rw[r];exact d))
     rw[hb]at h;simp only[if_true]at h;repeat' (first|simp only[go_sem,seval,a7]|with_reducible refine C0i vs fv hv f (K1 hf) fa _ ?_)
     exact D2O (u.trans (A0 M)) h
end Go.Proofs.YtibphjonmikciaaGreatDoor
namespace Go.Av
theorem A2U{b sz:Nat}{es:List (List D)}{d:D}{H H':Heap}{Q:D→Heap→Prop}(hb:H b=some (.vec sz es))
  (A: ∀k o',H' k=some o'→k≠b∧∃o,H k=some o∧OFz b sz es o o') (h:Fin Q d H'):Fin Q d H:=by
 unfold Fin at h⊢;obtain⟨V,d1,h1,x⟩:=h;refine⟨V,d1,Shift.trans (fun w v hr hs=>?_) h1,x⟩;have e: ∀k,H.held k=false→H'.held k=false:=fun k hk=>by
  cases ho:H' k with
  |none=>exact I1 ho
  |some o'=>
   obtain⟨_,o,h1,x⟩:=A k o' ho;rw[J5 h1]at hk;rw[J5 ho];cases x<;>exact hk
 have C: ∀{d d':D} {v:Value},Fz b sz es d d'→R w H d v→R w H' d' v:=fun q hr=>(q.R hs hb hr).mono (D2U _ _) fun k _ hk=>by
  by_cases y:k=b
  ·subst y;cases ho:H' k with
   |none=>exact I1 ho
   |some o'=>exact absurd rfl (A k o' ho).1
  ·refine e k ?_;rw[←A0Z (H:=H) (H':=H.del b) (k:=k) (by unfold Heap.del;rw[if_neg y])];exact hk
 refine⟨C (.same d) hr,fun k o' ho=>?_,e⟩;obtain⟨_,o,h1,x⟩:=A k o' ho;have r:=hs k o h1;cases x with
 |same=>exact r.mono (D2U H w) (fun k _ hk=>e k hk) rfl
 |box cs cs' Z hl q=>
  obtain⟨c,T,lo,G,I,J,O,z,L⟩:=r;refine⟨c,T,lo,G,I,J,by omega,fun j d' m=>?_,L⟩;have W:=(D06.1 m).1;have u:cs[j]? =some (cs[j]'(by omega)):=D1D _;have p:=q j _ _ u m;exact⟨p.one (z j _ u).1,C p (z j _ u).2⟩
 |vec s xs xs' hl q=>
  obtain⟨c,T,lo,G,I,J,O,z,L,U⟩:=r;refine⟨c,T,lo,G,I,J,O,by rw[←hl];exact z,fun i x' g=>?_,fun i x' j d' g m=>?_⟩
  ·have M:=(D06.1 g).1;have hx:xs[i]? =some (xs[i]'(by omega)):=D1D _;rw[←(q i _ _ hx g).1];exact L i _ hx
  ·have M:=(D06.1 g).1;have hx:xs[i]? =some (xs[i]'(by omega)):=D1D _;have hlen:=(q i _ _ hx g).1;have W:=(D06.1 m).1;have u:(xs[i]'(by omega))[j]? =some ((xs[i]'(by omega))[j]'(by omega)):=D1D _;have p:=(q i _ _ hx g).2 j _ _ u m;exact⟨p.one (U i _ j _ hx u).1,C p (U i _ j _ hx u).2⟩
def fzD(b sz:Nat)(es:List (List D)):D→D→Prop
 |d,d'=>d=d'∨(d= .vec b sz 0 es.length∧d'= .sl sz es)
theorem C4X{b sz:Nat}{es:List (List D)}{d d':D}(h:fzD b sz es d d'):Fz b sz es d d':=by
 rcases h with rfl|⟨rfl,rfl⟩
 ·exact .same _
 ·exact .all
def fzL(b sz:Nat)(es:List (List D)):List D→List D→Prop
 | [],[]=>True
 |d::l,d'::l'=>fzD b sz es d d'∧fzL b sz es l l'
 |_,_=>False
theorem A9I{b sz:Nat}{es:List (List D)}: ∀{l l':List D},fzL b sz es l l'→l.length=l'.length∧∀(i:Nat) d d',l[i]? =some d→l'[i]? =some d'→Fz b sz es d d'
 | [],[],_=>⟨rfl,fun i d d' h=>by cases h⟩
 |d::l,d'::l',h=>by
  obtain⟨h1,g⟩:=A9I h.2;refine⟨by rw[D01,D01,h1],fun i x x' hx e=>?_⟩;cases i with
  |zero=>cases hx;cases e;exact C4X h.1
  |succ i=>exact g i x x' hx e
 | [],_::_,h=>h.elim
 |_::_,[],h=>h.elim
def fzV(b sz:Nat)(es:List (List D)):List (List D)→List (List D)→Prop
 | [],[]=>True
 |d::l,d'::l'=>fzL b sz es d d'∧fzV b sz es l l'
 |_,_=>False
theorem A9J{b sz:Nat}{es:List (List D)}: ∀{l l':List (List D)},fzV b sz es l l'→l.length=l'.length∧∀(i:Nat) x x',l[i]? =some x→l'[i]? =some x'→x.length=x'.length∧∀(j:Nat) d d',x[j]? =some d→x'[j]? =some d'→Fz b sz es d d'
 | [],[],_=>⟨rfl,fun i d d' h=>by cases h⟩
 |d::l,d'::l',h=>by
  obtain⟨h1,g⟩:=A9J h.2;refine⟨by rw[D01,D01,h1],fun i x x' hx e=>?_⟩;cases i with
  |zero=>cases hx;cases e;exact A9I h.1
  |succ i=>exact g i x x' hx e
 | [],_::_,h=>h.elim
 |_::_,[],h=>h.elim
theorem A2t{b sz c s:Nat}{es xs xs':List (List D)}{H G:Heap}(hc:H c=some (.vec s xs))(d:c≠b)(g:fzV b sz es xs xs')(h: ∀k o',G k=some o'→k≠b∧∃o,H k=some o∧OFz b sz es o o'):
  ∀k o',(G.set c (.vec s xs')) k=some o'→k≠b∧∃o,H k=some o∧OFz b sz es o o':=by
 intro k o' hk;by_cases e:k=c
 ·subst e;rw[A3]at hk;cases hk;exact⟨d,_,hc,.vec _ _ _ (A9J g).1 (A9J g).2⟩
 ·rw[A4 _ e]at hk;exact h k o' hk
theorem B8L{b sz:Nat}{es:List (List D)}{H G:Heap}(h:G.Le H)(hb:G b=none): ∀k o',G k=some o'→k≠b∧∃o,H k=some o∧OFz b sz es o o':=fun k o' hk=>⟨fun e=>(by rw[e,hb]at hk;cases hk),o',h k o' hk,.same _⟩
def nlD:D→D→Prop
 |d,d'=>d=d'∨NilR d d'
def nlL:List D→List D→Prop
 | [],[]=>True
 |d::l,d'::l'=>nlD d d'∧nlL l l'
 |_,_=>False
theorem A5n: ∀{l l':List D},nlL l l'→l.length=l'.length∧∀(i:Nat) d d',l[i]? =some d→l'[i]? =some d'→NilR d d'
 | [],[],_=>⟨rfl,fun i d d' h=>by cases h⟩
 |d::l,d'::l',h=>by
  obtain⟨h1,g⟩:=A5n h.2;refine⟨by rw[D01,D01,h1],fun i x x' hx e=>?_⟩;cases i with
  |zero=>cases hx;cases e;rcases h.1 with rfl|q;exact .same _;exact q
  |succ i=>exact g i x x' hx e
 | [],_::_,h=>h.elim
 |_::_,[],h=>h.elim
def nlV:List (List D)→List (List D)→Prop
 | [],[]=>True
 |d::l,d'::l'=>nlL d d'∧nlV l l'
 |_,_=>False
theorem A5o: ∀{l l':List (List D)},nlV l l'→l.length=l'.length∧∀(i:Nat) x x',l[i]? =some x→l'[i]? =some x'→x.length=x'.length∧∀(j:Nat) d d',x[j]? =some d→x'[j]? =some d'→NilR d d'
 | [],[],_=>⟨rfl,fun i d d' h=>by cases h⟩
 |d::l,d'::l',h=>by
  obtain⟨h1,g⟩:=A5o h.2;refine⟨by rw[D01,D01,h1],fun i x x' hx e=>?_⟩;cases i with
  |zero=>cases hx;cases e;exact A5n h.1
  |succ i=>exact g i x x' hx e
 | [],_::_,h=>h.elim
 |_::_,[],h=>h.elim
theorem B37{z:Nat}{es es':List (List D)}(h:nlV es es'):NilR (.sl z es) (.sl z es'):=
 .sl z es es' (A5o h).1 (fun i e e' h1 g=>((A5o h).2 i e e' h1 g).1) fun i e e' j d d' h1 g m o=>((A5o h).2 i e e' h1 g).2 j d d' m o
theorem B8M{cs cs':List D}(h:nlL cs cs'):NilR (.agg cs) (.agg cs'):=.agg _ _ (A5n h).1 (A5n h).2
end Go.Av
namespace Go.Proofs.YtibphjonmikciaaGreatDoor
open Go Go.Av Go.Lexs Go.Lin Go.Fo
attribute [local irreducible] ACalls S3
theorem A77{Q}(H:Heap)(h:Q (.agg (C1 fxF)) H):E6 44 [] H Q:=by
 refine B2 [] A8 Tryz.func44 rfl ?_;simp only[go_sem,seval,Tryz.results44];repeat' (first|simp only[go_sem,seval]|simp(disch:=first|omega|grind) only[B9,E5]|(intro m;try simp only[A6]at m))
 rename_i A J a L p hp q hq d1 h1 d C g;have u:=m;clear m;have i:a≠A∧a≠p∧a≠q∧a≠d1∧a≠d∧a≠g:=⟨L.1,hp.1.symm,hq.2.1.symm,h1.2.2.1.symm,C.2.2.2.1.symm,u.2.2.2.2.1.symm⟩
 have j:d1≠A∧d1≠d∧d1≠g:=⟨h1.2.2.2.1,C.1.symm,u.2.1.symm⟩
 have ne:d≠A∧d≠g:=⟨C.2.2.2.2.1,u.1.symm⟩
 have U:g≠A:=u.2.2.2.2.2.1;have T:H a=none:=L.2;have M:H d1=none:=h1.2.2.2.2;have G:H d=none:=C.2.2.2.2.2;have V:H p=none:=hp.2.2;have W:H q=none:=hq.2.2.2;have I:H g=none:=u.2.2.2.2.2.2;clear L hp hq h1 C u;refine A2U (b:=a) (sz:=2) (es:=[[.str ⟨#[120]⟩,.int .i64 1]]) (by rw[A4 _ i.1,A4 _ i.2.2.2.2.2,A4 _ i.2.2.2.2.1,A4 _ i.2.2.2.1,A4 _ i.2.2.1,A4 _ i.2.1,A3]) (H':=((H.set d1 (.vec 7 [[.int .i64 3,.int .i64 0,.nilsl,.int .i64 0,.bool false,.str ⟨#[98]⟩,.nilsl]])).set d (.vec 7 ([[.int .i64 2,.int .i64 0,.sl 2 [[.str ⟨#[120]⟩,.int .i64 1]],.int .i64 (-3),.bool true,.str ⟨#[]⟩,.nilsl],[.int .i64 4,.int .i64 0,.nilsl,.int .i64 0,.bool false,.str ⟨#[]⟩,.vec d1 7 0 1]]))).set g (.vec 7 ([[.int .i64 2,.int .i64 0,.sl 2 [[.str ⟨#[120]⟩,.int .i64 1]],.int .i64 (-1),.bool false,.str ⟨#[]⟩,.nilsl],[.int .i64 6,.int .i64 0,.nilsl,.int .i64 0,.bool false,.str ⟨#[]⟩,.vec d 7 0 2]]))) ?_ ?_
 ·refine A2t (xs:=[[.int .i64 2,.int .i64 0,.vec a 2 0 1,.int .i64 (-1),.bool false,.str ⟨#[]⟩,.nilsl],[.int .i64 6,.int .i64 0,.nilsl,.int .i64 0,.bool false,.str ⟨#[]⟩,.vec d 7 0 2]]) (by rw[A4 _ U,A3]) i.2.2.2.2.2.symm (by simp[fzV,fzL,fzD]) (A2t (xs:=[[.int .i64 2,.int .i64 0,.vec a 2 0 1,.int .i64 (-3),.bool true,.str ⟨#[]⟩,.nilsl],[.int .i64 4,.int .i64 0,.nilsl,.int .i64 0,.bool false,.str ⟨#[]⟩,.vec d1 7 0 1]]) (by rw[A4 _ ne.1,A4 _ ne.2,A3]) i.2.2.2.2.1.symm (by simp[fzV,fzL,fzD]) (A2t (xs:=[[.int .i64 3,.int .i64 0,.nilsl,.int .i64 0,.bool false,.str ⟨#[98]⟩,.nilsl]]) (by rw[A4 _ j.1,A4 _ j.2.2,A4 _ j.2.1,A3]) i.2.2.2.1.symm (by simp[fzV,fzL,fzD]) (B8L ?_ T)));intro k o hk;by_cases O:k=A
  ·rw[O,J]at hk;cases hk
  ·have y: ∀x,H x=none→k≠x:=fun x hx e=>by rw[e,hx]at hk;cases hk
   rw[A4 _ O,A4 _ (y _ I),A4 _ (y _ G),A4 _ (y _ M),A4 _ (y _ W),A4 _ (y _ V),A4 _ (y _ T),A4 _ O];exact hk
 refine A2U (b:=d1) (sz:=7) (es:=[[.int .i64 3,.int .i64 0,.nilsl,.int .i64 0,.bool false,.str ⟨#[98]⟩,.nilsl]]) (by rw[A4 _ j.2.2,A4 _ j.2.1,A3]) (H':=(H.set d (.vec 7 ([[.int .i64 2,.int .i64 0,.sl 2 [[.str ⟨#[120]⟩,.int .i64 1]],.int .i64 (-3),.bool true,.str ⟨#[]⟩,.nilsl],[.int .i64 4,.int .i64 0,.nilsl,.int .i64 0,.bool false,.str ⟨#[]⟩,.sl 7 [[.int .i64 3,.int .i64 0,.nilsl,.int .i64 0,.bool false,.str ⟨#[98]⟩,.nilsl]]]]))).set g (.vec 7 ([[.int .i64 2,.int .i64 0,.sl 2 [[.str ⟨#[120]⟩,.int .i64 1]],.int .i64 (-1),.bool false,.str ⟨#[]⟩,.nilsl],[.int .i64 6,.int .i64 0,.nilsl,.int .i64 0,.bool false,.str ⟨#[]⟩,.vec d 7 0 2]]))) ?_ ?_
 ·refine A2t (xs:=[[.int .i64 2,.int .i64 0,.sl 2 [[.str ⟨#[120]⟩,.int .i64 1]],.int .i64 (-1),.bool false,.str ⟨#[]⟩,.nilsl],[.int .i64 6,.int .i64 0,.nilsl,.int .i64 0,.bool false,.str ⟨#[]⟩,.vec d 7 0 2]]) (A3 _ _) j.2.2.symm (by simp[fzV,fzL,fzD]) (A2t (xs:=[[.int .i64 2,.int .i64 0,.sl 2 [[.str ⟨#[120]⟩,.int .i64 1]],.int .i64 (-3),.bool true,.str ⟨#[]⟩,.nilsl],[.int .i64 4,.int .i64 0,.nilsl,.int .i64 0,.bool false,.str ⟨#[]⟩,.vec d1 7 0 1]]) (by rw[A4 _ ne.2,A3]) j.2.1.symm (by simp[fzV,fzL,fzD]) (B8L ?_ M));exact(A0 M).trans ((A0 (by rw[A4 _ j.2.1.symm];exact G)).trans (A0 (by rw[A4 _ ne.2.symm,A4 _ j.2.2.symm];exact I)))
 refine A2U (b:=d) (sz:=7) (es:=[[.int .i64 2,.int .i64 0,.sl 2 [[.str ⟨#[120]⟩,.int .i64 1]],.int .i64 (-3),.bool true,.str ⟨#[]⟩,.nilsl],[.int .i64 4,.int .i64 0,.nilsl,.int .i64 0,.bool false,.str ⟨#[]⟩,.sl 7 [[.int .i64 3,.int .i64 0,.nilsl,.int .i64 0,.bool false,.str ⟨#[98]⟩,.nilsl]]]]) (by rw[A4 _ ne.2,A3]) (H':=H.set g (.vec 7 ([[.int .i64 2,.int .i64 0,.sl 2 [[.str ⟨#[120]⟩,.int .i64 1]],.int .i64 (-1),.bool false,.str ⟨#[]⟩,.nilsl],[.int .i64 6,.int .i64 0,.nilsl,.int .i64 0,.bool false,.str ⟨#[]⟩,.sl 7 ([[.int .i64 2,.int .i64 0,.sl 2 [[.str ⟨#[120]⟩,.int .i64 1]],.int .i64 (-3),.bool true,.str ⟨#[]⟩,.nilsl],[.int .i64 4,.int .i64 0,.nilsl,.int .i64 0,.bool false,.str ⟨#[]⟩,.sl 7 [[.int .i64 3,.int .i64 0,.nilsl,.int .i64 0,.bool false,.str ⟨#[98]⟩,.nilsl]]]])]]))) ?_ ?_
 ·refine A2t (xs:=[[.int .i64 2,.int .i64 0,.sl 2 [[.str ⟨#[120]⟩,.int .i64 1]],.int .i64 (-1),.bool false,.str ⟨#[]⟩,.nilsl],[.int .i64 6,.int .i64 0,.nilsl,.int .i64 0,.bool false,.str ⟨#[]⟩,.vec d 7 0 2]]) (A3 _ _) ne.2.symm (by simp[fzV,fzL,fzD]) (B8L ?_ G);exact(A0 G).trans (A0 (by rw[A4 _ ne.2.symm];exact I))
 refine V3 (b:=g) (sz:=7) (es:=[[.int .i64 2,.int .i64 0,.sl 2 [[.str ⟨#[120]⟩,.int .i64 1]],.int .i64 (-1),.bool false,.str ⟨#[]⟩,.nilsl],[.int .i64 6,.int .i64 0,.nilsl,.int .i64 0,.bool false,.str ⟨#[]⟩,.sl 7 ([[.int .i64 2,.int .i64 0,.sl 2 [[.str ⟨#[120]⟩,.int .i64 1]],.int .i64 (-3),.bool true,.str ⟨#[]⟩,.nilsl],[.int .i64 4,.int .i64 0,.nilsl,.int .i64 0,.bool false,.str ⟨#[]⟩,.sl 7 [[.int .i64 3,.int .i64 0,.nilsl,.int .i64 0,.bool false,.str ⟨#[98]⟩,.nilsl]]]])]]) (cs':=[.int .i64 5,.int .i64 0,.nilsl,.int .i64 0,.bool false,.str ⟨#[]⟩,.sl 7 ([[.int .i64 2,.int .i64 0,.sl 2 [[.str ⟨#[120]⟩,.int .i64 1]],.int .i64 (-1),.bool false,.str ⟨#[]⟩,.nilsl],[.int .i64 6,.int .i64 0,.nilsl,.int .i64 0,.bool false,.str ⟨#[]⟩,.sl 7 ([[.int .i64 2,.int .i64 0,.sl 2 [[.str ⟨#[120]⟩,.int .i64 1]],.int .i64 (-3),.bool true,.str ⟨#[]⟩,.nilsl],[.int .i64 4,.int .i64 0,.nilsl,.int .i64 0,.bool false,.str ⟨#[]⟩,.sl 7 [[.int .i64 3,.int .i64 0,.nilsl,.int .i64 0,.bool false,.str ⟨#[98]⟩,.nilsl]]]])]])]) (A3 _ _) rfl (A9I (by simp[fzL,fzD])).2 ?_;refine D9 (d':=.agg (C1 fxF)) ?_ (D2O ?_ h)
 ·have e:C1 fxF= [.int .i64 5,.int .i64 0,.sl 2 [],.int .i64 0,.bool false,.str ⟨#[]⟩,.sl 7 ([[.int .i64 2,.int .i64 0,.sl 2 [[.str ⟨#[120]⟩,.int .i64 1]],.int .i64 (-1),.bool false,.str ⟨#[]⟩,.sl 7 []],[.int .i64 6,.int .i64 0,.sl 2 [],.int .i64 0,.bool false,.str ⟨#[]⟩,.sl 7 ([[.int .i64 2,.int .i64 0,.sl 2 [[.str ⟨#[120]⟩,.int .i64 1]],.int .i64 (-3),.bool true,.str ⟨#[]⟩,.sl 7 []],[.int .i64 4,.int .i64 0,.sl 2 [],.int .i64 0,.bool false,.str ⟨#[]⟩,.sl 7 [[.int .i64 3,.int .i64 0,.sl 2 [],.int .i64 0,.bool false,.str ⟨#[98]⟩,.sl 7 []]]]])]])]:=rfl;rw[e];have r: ∀z,NilR .nilsl (.sl z []):=NilR.nil;refine B8M ?_;refine⟨.inl rfl,.inl rfl,.inr (r _),.inl rfl,.inl rfl,.inl rfl,.inr (B37 ?_),trivial⟩;refine⟨⟨.inl rfl,.inl rfl,.inl rfl,.inl rfl,.inl rfl,.inl rfl,.inr (r _),trivial⟩,⟨.inl rfl,.inl rfl,.inr (r _),.inl rfl,.inl rfl,.inl rfl,.inr (B37 ?_),trivial⟩,trivial⟩;refine⟨⟨.inl rfl,.inl rfl,.inl rfl,.inl rfl,.inl rfl,.inl rfl,.inr (r _),trivial⟩,⟨.inl rfl,.inl rfl,.inr (r _),.inl rfl,.inl rfl,.inl rfl,.inr (B37 ?_),trivial⟩,trivial⟩;exact⟨⟨.inl rfl,.inl rfl,.inr (r _),.inl rfl,.inl rfl,.inl rfl,.inr (r _),trivial⟩,trivial⟩
 ·intro k o hk;have:k≠g:=fun e=>by rw[e,I]at hk;cases hk
  show ((H.set g _).del g) k=_;rw[E5 this,A4 _ this];exact hk
theorem B1O(f:Fm)(x:FmFit f): ∀{Q:D→Heap→Prop} (H:Heap) (h:Q (.bool true) H),E6 21 [.agg (C1 f),.agg (C1 f)] H Q:=by
 induction x with
 |mk o n l s ks ho hn hl hs hk I y=>
 intro Q H h;have e:C1 (.mk o n l s ks)= [.int .i64 o,.int .i64 n,.sl 2 (Rw L4 l.t),.int .i64 l.k,.bool l.e,.str s,.sl 7 (Rw C1 ks)]:=O2 _;rw[e];refine B2 [(6,.par)] A8 Tryz.func21 rfl ?_;simp only[go_sem,seval,Tryz.results21];intro g z j r;simp only[A6]at r;have e2:((H.set g (.box [.int .i64 o,.int .i64 n,.sl 2 (Rw L4 l.t),.int .i64 l.k,.bool l.e,.str s,.sl 7 (Rw C1 ks)])).set j (.box [.int .i64 o,.int .i64 n,.sl 2 (Rw L4 l.t),.int .i64 l.k,.bool l.e,.str s,.sl 7 (Rw C1 ks)])) g=some (.box [.int .i64 o,.int .i64 n,.sl 2 (Rw L4 l.t),.int .i64 l.k,.bool l.e,.str s,.sl 7 (Rw C1 ks)]):=by rw[A4 _ r.1.symm,A3]
 have e3:((H.set g (.box [.int .i64 o,.int .i64 n,.sl 2 (Rw L4 l.t),.int .i64 l.k,.bool l.e,.str s,.sl 7 (Rw C1 ks)])).set j (.box [.int .i64 o,.int .i64 n,.sl 2 (Rw L4 l.t),.int .i64 l.k,.bool l.e,.str s,.sl 7 (Rw C1 ks)])) j=some (.box [.int .i64 o,.int .i64 n,.sl 2 (Rw L4 l.t),.int .i64 l.k,.bool l.e,.str s,.sl 7 (Rw C1 ks)]):=A3 _ _;have p:H.Le ((H.set g (.box [.int .i64 o,.int .i64 n,.sl 2 (Rw L4 l.t),.int .i64 l.k,.bool l.e,.str s,.sl 7 (Rw C1 ks)])).set j (.box [.int .i64 o,.int .i64 n,.sl 2 (Rw L4 l.t),.int .i64 l.k,.bool l.e,.str s,.sl 7 (Rw C1 ks)])):=(A0 z).trans (A0 (by simp only[A6];exact r));generalize (H.set g (.box [.int .i64 o,.int .i64 n,.sl 2 (Rw L4 l.t),.int .i64 l.k,.bool l.e,.str s,.sl 7 (Rw C1 ks)])).set j (.box [.int .i64 o,.int .i64 n,.sl 2 (Rw L4 l.t),.int .i64 l.k,.bool l.e,.str s,.sl 7 (Rw C1 ks)])=Bs at e2 e3 p⊢;have A:g∈[g,j]:=by simp
 have C:j∈[g,j]:=by simp
 have hc: ∀{Q:D→Heap→Prop} (H:Heap) (h:Q (.bool true) H),E6 60 [.agg [.sl 2 (Rw L4 l.t),.int .i64 l.k,.bool l.e],.agg [.sl 2 (Rw L4 l.t),.int .i64 l.k,.bool l.e]] H Q:=fun H h=>B99 l hl H h;repeat' (first|simp only[go_sem,seval,e2,e3]|with_reducible refine hc _ ?_)
 refine C8 [2,3,44] (fun(i:Nat)=>[(45,.int .i64 i)]) (fun(i:Nat)=>Bs) (fun(i:Nat)=>i≤ks.length) (fun(i:Nat)=>ks.length-i) (0) (D1H _) (by(try simp only[go_sem,seval])<;>(try simp(disch:=omega) [A5])) (by first|exact D2N _|exact A0 (by assumption)|exact B4 (by assumption)|simp only[Heap.Le,Heap.set,Heap.del]at* <;>grind) ?_;rintro J rfl i L;by_cases d:i<ks.length
 ·have m:decide ((i:Int)<ks.length)=true:=D0y (by omega);have q:(i:Int)<ks.length:=by omega
  have u: ∀{Q:D→Heap→Prop} (H:Heap) (h:Q (.bool true) H),E6 21 [.agg (C1 ks[i]),.agg (C1 ks[i])] H Q:=y ks[i] (D1A d);repeat' simp only[go_sem,seval,m,q,B3 _ _ d,C3 _ _ d]
  refine F4 (fun G=>if G=10 then .bool true else .undef) [g,j] ?_;repeat' (first|with_reducible apply D0w|simp only[go_sem,seval,m,q,B3 _ _ d,C3 _ _ d,e2,e3,A,C]|simp(disch:=omega) only[A5,B3,C5]|with_reducible refine P8 (fun H' Q hro hq=>u H' hq) ?_|omega)
  exact C4 (i+1) (by omega) (by omega) (by(try simp only[go_sem,seval])<;>(try simp(disch:=omega) [A5])) (by simp only[E3,D1,D2]at* <;>grind)
 ·have m:decide ((i:Int)<ks.length)=false:=D0z (by omega);repeat' simp only[go_sem,seval,m]
  exact D2O p h
theorem C0l{Q}(l:List VlV)(j:A7S l)(H:Heap)(h:Q (.bool true) H):E6 35 [.sl 2 (Rw vlC l),.sl 2 (Rw vlC l)] H Q:=by
 refine B2 [(6,.par)] A8 Tryz.func35 rfl ?_;simp only[go_sem,seval,Tryz.results35];have hlen:=j.len;refine C8 [0,1,12] (fun(i:Nat)=>[(13,.int .i64 i)]) (fun(i:Nat)=>H) (fun(i:Nat)=>i≤l.length) (fun(i:Nat)=>l.length-i) (0) (D1H _) (by(try simp only[go_sem,seval])<;>(try simp(disch:=omega) [A5])) (by first|exact D2N _|exact A0 (by assumption)|exact B4 (by assumption)|simp only[Heap.Le,Heap.set,Heap.del]at* <;>grind) ?_;rintro m rfl i o;by_cases d:i<l.length
 ·have e:decide ((i:Int)<l.length)=true:=D0y (by omega);have g:(i:Int)<l.length:=by omega
  repeat' simp only[go_sem,seval,e,g,B3 _ _ d,C3 _ _ d]
  refine F4 (fun p=>.undef) [] ?_;repeat' (first|with_reducible apply D0w|simp only[go_sem,seval,e,g,B3 _ _ d,C3 _ _ d]|simp(disch:=omega) only[A5,B3,C5]|omega)
  exact C4 (i+1) (by omega) (by omega) (by(try simp only[go_sem,seval])<;>(try simp(disch:=omega) [A5])) (by simp only[E3,D1,D2]at* <;>grind)
 ·have e:decide ((i:Int)<l.length)=false:=D0z (by omega);repeat' simp only[go_sem,seval,e]
  exact D2R h
theorem B1P{Q}(l:List ByteArray)(hl:l.length≤8796093022207)(H:Heap)(h:Q (.bool true) H):E6 20 [.sl 1 (Rw I6 l),.sl 1 (Rw I6 l)] H Q:=by
 refine B2 [(6,.par)] A8 Tryz.func20 rfl ?_;simp only[go_sem,seval,Tryz.results20];refine C8 [0,1,12] (fun(i:Nat)=>[(13,.int .i64 i)]) (fun(i:Nat)=>H) (fun(i:Nat)=>i≤l.length) (fun(i:Nat)=>l.length-i) (0) (D1H _) (by(try simp only[go_sem,seval])<;>(try simp(disch:=omega) [A5])) (by first|exact D2N _|exact A0 (by assumption)|exact B4 (by assumption)|simp only[Heap.Le,Heap.set,Heap.del]at* <;>grind) ?_;rintro j rfl i m;by_cases d:i<l.length
 ·have e:decide ((i:Int)<l.length)=true:=D0y (by omega);have g:(i:Int)<l.length:=by omega
  repeat' simp only[go_sem,seval,e,g,B3 _ _ d,C3 _ _ d]
  refine F4 (fun o=>.undef) [] ?_;repeat' (first|with_reducible apply D0w|simp only[go_sem,seval,e,g,B3 _ _ d,C3 _ _ d]|simp(disch:=omega) only[A5,B3,C5]|omega)
  exact C4 (i+1) (by omega) (by omega) (by(try simp only[go_sem,seval])<;>(try simp(disch:=omega) [A5])) (by simp only[E3,D1,D2]at* <;>grind)
 ·have e:decide ((i:Int)<l.length)=false:=D0z (by omega);repeat' simp only[go_sem,seval,e]
  exact D2R h
end Go.Proofs.YtibphjonmikciaaGreatDoor
namespace Go.Fo
open Go Go.Av Go.Lexs Go.Lin
theorem RdS.same{H H':Heap}{br:Nat}{r:List UInt8}{bad:Bool}(h:RdS H H' br r bad)(hb:H br=some (.box [.str (S r),.bool bad])):H'=H:=by
 funext k
 by_cases e:k=br
 ·rw[e,h.here,hb]
 ·exact h.els k e
theorem A1q{H i H':Heap}{br d:Nat}{r:List UInt8}{bad:Bool}(s:RdS i H' br r bad)(g:(H.del br).Le i)(j:H d=none)(h:br≠d)(V:Av.Obj):(H.set br (.box [.str (S r),.bool bad])).Le (H'.set d V):=fun k o hk=>by
 by_cases e:k=br
 ·subst e;rw[A3]at hk;rw[A4 _ h,s.here];exact hk
 ·rw[A4 _ e]at hk;have m:k≠d:=fun e=>by rw[e,j]at hk;cases hk
  rw[A4 _ m,s.els k e];exact g k o (by rw[E5 e];exact hk)
theorem C0m{H i H':Heap}{br g x:Nat}{r:List UInt8}{bad:Bool}(s:RdS i H' br r bad)(d:(H.del br).Le i)(p:H g=none)(h:br≠g)(hx:H' x=none)(o1 V:Av.Obj):(H.set br (.box [.str (S r),.bool bad])).Le (((H'.set x o1).set g V).del x):=fun k o hk=>by
 have h1:=A1q s d p h V k o hk;have j:k≠x:=fun e=>by
  by_cases e2:k=br
  ·rw[←e,e2,s.here]at hx;cases hx
  ·rw[A4 _ e2]at hk;have:=d k o (by rw[E5 e2];exact hk);rw[←s.els k e2,e,hx]at this;cases this
 rw[E5 j];by_cases m:k=g
 ·subst m;rw[A3]at h1⊢;exact h1
 ·rw[A4 _ m]at h1⊢;rw[A4 _ j];exact h1
theorem A78(r:List UInt8):R3 r=r.drop (M6 r).length:=by
 have h:M6 r++R3 r=r:=List.takeWhile_append_dropWhile
 conv=>rhs;rw[←h]
 rw[List.drop_left' (by rw[h])]
theorem B5K{d:List UInt8→Fm×List UInt8×Bool}(g: ∀r,∃j,(d r).2.1=r.drop j): ∀n r out,∃j,(A1K d n r out).2.1=r.drop j:=by
 intro n
 induction n with
 |zero=>intro r out;exact⟨0,rfl⟩
 |succ n h=>
  intro r out;obtain⟨j,e⟩:=g r;rw[A1K];split
  ·exact⟨j+1,by show (d r).2.1.drop 1=_;rw[e,D16]⟩
  ·split
   ·exact⟨j,e⟩
   ·split
    ·obtain⟨k,hk⟩:=h ((d r).2.1.drop 2) (out++[(d r).1]);exact⟨j+(2+k),by rw[hk,e,D16,D16]⟩
    ·exact⟨j,e⟩
theorem B5L: ∀e r,∃j,(G8 e r).2.1=r.drop j:=by
 intro e
 induction e with
 |zero=>intro r;exact⟨0,rfl⟩
 |succ e g=>
  intro r;have hl: ∀k,∃j,(Y7 (G8 e) (r.drop k)).2.1=r.drop j:=fun k=>by
   unfold Y7;split
   ·exact⟨k+1,by show (r.drop k).drop 1=_;rw[D16]⟩
   ·obtain⟨j,d⟩:=B5K g ((r.drop k).length+1) (r.drop k) [];exact⟨k+j,by rw[d,D16]⟩
  rw[G8];split
  ·exact⟨1+(M6 (r.drop 1)).length,by show R3 (r.drop 1)=_;rw[A78,D16]⟩
  ·split
   ·obtain⟨j,d⟩:=g (r.drop 1);exact⟨1+j,by show (G8 e (r.drop 1)).2.1=_;rw[d,D16]⟩
   ·split
    ·exact hl 2
    ·split
     ·exact hl 2
     ·exact⟨_,A78 r⟩
end Go.Fo
namespace Go.Proofs.YtibphjonmikciaaGreatDoor
open Go Go.Av Go.Lexs Go.Lin Go.Fo
attribute [local irreducible] ACalls S3
theorem A9K(w:List UInt8)(l:List UInt8):(S w=⟨l.toArray⟩)=(w=l):=propext ⟨fun h=>C55 h,fun h=>by rw[h];rfl⟩
theorem C4Y:A74 0:=by
 intro Q br r hr hx H u hb h;have p:((61:Int)-(0:Nat))=61:=by omega
 rw[p];refine B2 [] A8 Tryz.func71 rfl ?_;simp only[go_sem,seval,Tryz.results71];intro g j;have i:br≠g:=fun e=>by rw[←e,hb]at j;cases j
 have m:(H.set g (.box [.int .i64 0,.int .i64 0,.nilsl,.int .i64 0,.bool false,.str ⟨#[]⟩,.nilsl])) br=some (.box [.str (S r),.bool false]):=by rw[A4 _ i];exact hb
 have o:(H.set g (.box [.int .i64 0,.int .i64 0,.nilsl,.int .i64 0,.bool false,.str ⟨#[]⟩,.nilsl])) g=some (.box [.int .i64 0,.int .i64 0,.nilsl,.int .i64 0,.bool false,.str ⟨#[]⟩,.nilsl]):=A3 _ _;have d:(H.del br).Le (H.set g (.box [.int .i64 0,.int .i64 0,.nilsl,.int .i64 0,.bool false,.str ⟨#[]⟩,.nilsl])):=(F0 _ _).trans (A0 j);generalize H.set g (.box [.int .i64 0,.int .i64 0,.nilsl,.int .i64 0,.bool false,.str ⟨#[]⟩,.nilsl])=Bs at m o d⊢;have q:(Bs.set br (.box [.str (S r),.bool true])) g=some (.box [.int .i64 0,.int .i64 0,.nilsl,.int .i64 0,.bool false,.str ⟨#[]⟩,.nilsl]):=by rw[A4 _ i.symm];exact o
 repeat' simp only[go_sem,seval,m,q]
 exact D9 (A4l 0 0 0 false D5) (D2O (A1q (RdS.set Bs br r true) d j i _) (h _ (RdS.set _ _ _ _)))
set_option maxHeartbeats 4000000 in
theorem C4Z(e:Nat)(he:e+1≤60)(hF:A74 e):A74 (e+1):=by
 intro Q br r hr hx H hT hb h;obtain⟨dp,b9⟩: ∃dp:Int,dp=61-((e+1:Nat):Int):=⟨_,rfl⟩
 have c6:1≤dp:=by omega
 have c7:dp≤60:=by omega
 have T:IntKind.i64.wrap (dp+1)=61-(e:Int):=by rw[A5 (by omega) (by omega)];omega
 rw[←b9];refine B2 [] A8 Tryz.func71 rfl ?_;simp only[go_sem,seval,Tryz.results71];intro m y;have d:br≠m:=fun e=>by rw[←e,hb]at y;cases y
 obtain⟨Z,hZ⟩: ∃Z:List D,Z= [.int .i64 0,.int .i64 0,.nilsl,.int .i64 0,.bool false,.str ⟨#[]⟩,.nilsl]:=⟨_,rfl⟩
 rw[←hZ];have e4:(H.set m (.box Z)) m=some (.box Z):=A3 _ _;have z:(H.set m (.box Z)) br=some (.box [.str (S r),.bool false]):=by rw[A4 _ d];exact hb
 have a4:H.Le (H.set m (.box Z)):=A0 y;have g:(H.del br).Le (H.set m (.box Z)):=(F0 _ _).trans a4;generalize H.set m (.box Z)=Bs at e4 z a4 g⊢;have U:(H.del br) br=none:=by simp[Heap.del]
 have tb: ∀{Hx:Heap} {r':List UInt8} {bd:Bool},RdS Bs Hx br r' bd→Tabs Hx:=fun s=>hT.rd hb (s.le g U);have a5:B (⟨#[63]⟩:ByteArray)= [63]:=rfl;have a6:B (⟨#[33]⟩:ByteArray)= [33]:=rfl;have a7:B (⟨#[38,40]⟩:ByteArray)= [38,40]:=rfl;have M:B (⟨#[124,40]⟩:ByteArray)= [124,40]:=rfl;have c0:(⟨#[63]⟩:ByteArray).size=1:=rfl;have c1:(⟨#[33]⟩:ByteArray).size=1:=rfl;have c2:(⟨#[38,40]⟩:ByteArray).size=2:=rfl;have a9:(⟨#[124,40]⟩:ByteArray).size=2:=rfl;have c3: ¬60<dp:=by omega
 have O:=fun(r:List UInt8) (_:r.length≤20000)=>B5L e r;rw[G8]at h;repeat' (first|with_reducible apply D0w|simp only[go_sem,seval,z,c3])
 refine A3R br ⟨#[63]⟩ r false Bs z fun H1 G=>?_;rw[a5,c0]at G;rw[a5];cases p1:pre [63] r with
 |true=>
  rw[p1]at h G;simp only[if_true]at h G;repeat' simp only[go_sem,seval]
  refine B32 br (r.drop 1) false (by rw[D1U];omega) (hx 1) H1 G.here fun H2 p=>?_;have b0:=G.trans p;have i:=b0.keep e4 d.symm;rw[hZ]at i;repeat' simp only[go_sem,seval,i]
  exact D9 (A4l 3 0 0 false _) (D2O (A1q b0 g y d _) (h _ (RdS.set _ _ _ _)))
 |false=>
  rw[p1]at h G;simp only[D1C,if_false]at h G;have hs:=G.same z;subst hs;clear G;repeat' simp only[go_sem,seval]
  refine A3R br ⟨#[33]⟩ r false _ z fun H2 p=>?_;rw[a6,c1]at p;rw[a6];cases p2:pre [33] r with
  |true=>
   rw[p2]at h p;simp only[if_true]at h p;repeat' simp only[go_sem,seval,T]
   refine hF _ br (r.drop 1) (by rw[D1U];omega) (A2s hx 1) H2 (tb p) p.here fun H3 q=>?_;have b1:=p.trans q;have i:=b1.keep e4 d.symm;rw[hZ]at i;repeat' (first|simp only[go_sem,seval,i]|simp(disch:=first|omega|grind) only[B9]|intro j)
   rename_i x;have V:=j;clear j;refine A81 (ob:=some x) (ks:=[(G8 e (r.drop 1)).1]) rfl (?_:(Heap.set _ m _) x=_) (D2O (C0m b1 g y d V _ _) (h _ (RdS.set _ _ _ _)));have c4:x≠m:=fun e=>by rw[e,i]at V;cases V
   rw[A4 _ c4];exact A3 _ _
  |false=>
   rw[p2]at h p;simp only[D1C,if_false]at h p;have hs:=p.same z;subst hs;clear p;repeat' simp only[go_sem,seval]
   refine A3R br ⟨#[38,40]⟩ r false _ z fun H3 q=>?_;rw[a7,c2]at q;rw[a7];cases p3:pre [38,40] r with
   |true=>
    rw[p3]at h q;simp only[if_true]at h q;repeat' simp only[go_sem,seval,T]
    refine B78 e (by omega) hF br (r.drop 2) (by rw[D1U];omega) (A2s hx 2) H3 (tb q) q.here O fun H4 u=>?_;have b2:=q.trans u;have i:=b2.keep e4 d.symm;rw[hZ]at i;repeat' simp only[go_sem,seval,i]
    exact D9 (B2P 5 0 0 false D5 _) (D2O (A1q b2 g y d _) (h _ (RdS.set _ _ _ _)))
   |false=>
    rw[p3]at h q;simp only[D1C,if_false]at h q;have hs:=q.same z;subst hs;clear q;repeat' simp only[go_sem,seval]
    refine A3R br ⟨#[124,40]⟩ r false _ z fun H4 u=>?_;rw[M,a9]at u;rw[M];cases p4:pre [124,40] r with
    |true=>
     rw[p4]at h u;simp only[if_true]at h u;repeat' simp only[go_sem,seval,T]
     refine B78 e (by omega) hF br (r.drop 2) (by rw[D1U];omega) (A2s hx 2) H4 (tb u) u.here O fun H5 C=>?_;have b3:=u.trans C;have i:=b3.keep e4 d.symm;rw[hZ]at i;repeat' simp only[go_sem,seval,i]
     exact D9 (B2P 6 0 0 false D5 _) (D2O (A1q b3 g y d _) (h _ (RdS.set _ _ _ _)))
    |false=>
     rw[p4]at h u;simp only[D1C,if_false]at h u;have hs:=u.same z;subst hs;clear u;repeat' simp only[go_sem,seval]
     have b7:=hx 0;rw[List.drop_zero]at b7;refine B32 br r false (by omega) b7 _ z fun H5 C=>?_;have i:=C.keep e4 d.symm;rw[hZ]at i;have c8:=A6r r;unfold A7A at h;by_cases w1:M6 r=A1J
     ·rw[if_pos w1]at h;have I:M6 r= [116,114,117,101]:=w1;repeat' simp only[go_sem,seval,i,A9K,I]
      exact D9 (A4l 1 1 0 false D5) (D2O (A1q C g y d _) (h _ (RdS.set _ _ _ _)))
     ·rw[if_neg w1]at h;have I: ¬M6 r= [116,114,117,101]:=w1;by_cases w2:M6 r=flsB
      ·rw[if_pos w2]at h;have J:M6 r= [102,97,108,115,101]:=w2;have c5: ¬([102,97,108,115,101]:List UInt8)= [116,114,117,101]:=by decide
       repeat' simp only[go_sem,seval,i,A9K,J,c5]
       exact D9 (A4l 1 0 0 false D5) (D2O (A1q C g y d _) (h _ (RdS.set _ _ _ _)))
      ·rw[if_neg w2]at h;have J: ¬M6 r= [102,97,108,115,101]:=w2;obtain⟨⟨L,er⟩,b8⟩: ∃x,x=N5 (M6 r):=⟨_,rfl⟩
       have pc:=fun(Q:D→Heap→Prop) (H:Heap) (hT:Tabs H)=>C0F (Q:=Q) (S (M6 r)) (by rw[P3];omega) H hT;rw[y5,←b8]at pc;rw[←b8]at h;simp only at h pc;have r5:=C.here;by_cases e0:er=0
       ·have W:decide (er≠0)=false:=by simp[e0]
        rw[W]at h;repeat' (first|simp only[go_sem,seval,i,A9K,I,J,r5,e0]|simp(disch:=first|omega|grind) only[B9]|intro j|with_reducible refine pc _ _ (tb C) ?_)
        rename_i b6;have X:=j;clear j;have Y:m≠b6:=fun e=>by rw[←e,i]at X;cases X
        have s6:=RdS.set (H5.set b6 (.box [.sl 2 (Rw L4 L.t),.int .i64 L.k,.bool L.e])) br (R3 r) false;have a0:=s6.keep (b:=m) (by rw[A4 _ Y];exact i) d.symm;have A:=(C.le g U).trans (A0 (o:=.box [.sl 2 (Rw L4 L.t),.int .i64 L.k,.bool L.e]) X);repeat' (first|simp only[go_sem,seval,a0]|with_reducible refine A4o L _ ?_)
        exact D2O (A1q s6 A y d _) (h _ (RdS.set _ _ _ _))
       ·have W:decide (er≠0)=true:=by simp[e0]
        rw[W]at h;repeat' (first|simp only[go_sem,seval,i,A9K,I,J,r5,e0]|simp(disch:=first|omega|grind) only[B9]|intro j|with_reducible refine pc _ _ (tb C) ?_)
        rename_i b6;have X:=j;clear j;have Y:m≠b6:=fun e=>by rw[←e,i]at X;cases X
        have s6:=RdS.set (H5.set b6 (.box [.sl 2 (Rw L4 L.t),.int .i64 L.k,.bool L.e])) br (R3 r) true;have a0:=s6.keep (b:=m) (by rw[A4 _ Y];exact i) d.symm;have A:=(C.le g U).trans (A0 (o:=.box [.sl 2 (Rw L4 L.t),.int .i64 L.k,.bool L.e]) X);repeat' (first|simp only[go_sem,seval,a0]|with_reducible refine A4o L _ ?_)
        exact D2O (A1q s6 A y d _) (h _ (RdS.set _ _ _ _))
theorem C4a: ∀e,e≤60→A74 e:=by
 intro e
 induction e with
 |zero=>intro _;exact C4Y
 |succ e d=>intro he;exact C4Z e he (d (by omega))
theorem A37(n:Int):NilR (.tuple [.agg [.int .i64 0,.int .i64 0,.nilsl,.int .i64 0,.bool false,.str ⟨#[]⟩,.nilsl],.int .i64 n]) (.tuple [.agg (C1 zeroF),.int .i64 n]):=B42 (A4l 0 0 0 false D5)
theorem B1Q{Q}(s:ByteArray)(hx:s.size≤20000→∀k,A6o ((B s).drop k))(H:Heap)(p:Tabs H)(h:Q (.tuple [.agg (C1 (A3Q (B s)).1),.int .i64 (A3Q (B s)).2]) H):E6 29 [.str s] H Q:=by
 refine B2 [] A8 Tryz.func29 rfl ?_;simp only[go_sem,seval,Tryz.results29];have a0:=U7 s;intro o q;obtain⟨Z,r⟩: ∃Z:List D,Z= [.int .i64 0,.int .i64 0,.nilsl,.int .i64 0,.bool false,.str ⟨#[]⟩,.nilsl]:=⟨_,rfl⟩
 rw[←r];have e2:(H.set o (.box Z)) o=some (.box Z):=A3 _ _;have i:H.Le (H.set o (.box Z)):=A0 q;generalize H.set o (.box Z)=Bs at e2 i⊢;have a4:=p.le i;unfold A3Q at h;by_cases hl:(B s).length > 20000
 ·rw[if_pos hl]at h;have T:(20000:Int)<s.size:=by omega
  subst r;repeat' (first|with_reducible apply D0w|simp only[go_sem,seval,T,e2])
  exact D9 (A37 3) (D2O (by first|exact i|exact F3 i q) h)
 ·rw[if_neg hl]at h;have T: ¬(20000:Int)<s.size:=by omega
  have U:=C4a 60 (by omega);unfold A74 at U;rw[show ((61:Int)-(60:Nat))=1 by omega]at U;have hsz:=(B1G 60 (B s) (by omega))
  repeat' (first|with_reducible apply D0w|simp only[go_sem,seval,T]|intro j)
  rename_i br;have hr:=j;clear j;have Y:(Bs.set br (.box [.str s,.bool false])) br=some (.box [.str (S (B s)),.bool false]):=by rw[A3,S_B]
  have nr:o≠br:=fun e=>by rw[←e,e2]at hr;cases hr
  have m:H.Le (Bs.set br (.box [.str s,.bool false])):=i.trans (A0 hr);have C:(Bs.set br (.box [.str s,.bool false])) o=some (.box Z):=by rw[A4 _ nr];exact e2
  have V:H br=none:=i.none hr;generalize Bs.set br (.box [.str s,.bool false])=Cs at Y C m⊢;refine U _ br (B s) (by omega) (hx (by omega)) _ (p.le m) Y fun G I=>?_;obtain⟨⟨f1,r1,bad⟩,W⟩: ∃x,x=G8 60 (B s):=⟨_,rfl⟩
  rw[←W]at h hsz I⊢;simp only at h hsz I⊢;have J:=I.keep C nr;have L:=I.le m V;have g:=I.here;repeat' (first|simp only[go_sem,seval]|simp(disch:=first|omega|grind) only[B9]|intro j)
  rename_i b5;have h5:=j;clear j;have n5:br≠b5∧o≠b5:=⟨fun e=>(by rw[←e,g]at h5;cases h5),fun e=>(by rw[←e,J]at h5;cases h5)⟩
  have M:(G.set b5 (.box (C1 f1))) b5=some (.box (C1 f1)):=A3 _ _;have u:(G.set b5 (.box (C1 f1))) br=some (.box [.str (S r1),.bool bad]):=by rw[A4 _ n5.1];exact g
  have A:(G.set b5 (.box (C1 f1))) o=some (.box Z):=by rw[A4 _ n5.2];exact J
  have d:H.Le (G.set b5 (.box (C1 f1))):=L.trans (A0 h5);generalize G.set b5 (.box (C1 f1))=Ds at M u A d⊢;cases bad with
  |true=>
   simp only[true_or,if_true]at h;subst r;repeat' simp only[go_sem,seval,g,u,A]
   exact D9 (A37 30) (D2O (by first|exact d|exact F3 d q) h)
  |false=>
   by_cases y:r1= []
   ·rw[y]at h u g;simp only[D1C,ne_eq,not_true,or_self,if_false]at h;unfold okF at h;have fo:=hsz.2.fit;have vo:VOk f1:=.inl (by have:=hsz.2.wt;omega);have z:=fun(Q:D→Heap→Prop) (H:Heap) (p:Tabs H)=>A9F (Q:=Q) f1 fo vo H p;have X:S []=⟨#[]⟩:=rfl;cases hv:E7 f1 with
    |false=>
     rw[hv]at h z;simp only[D1C,false_and,if_false]at h z;subst r;repeat' (first|simp only[go_sem,seval,g,u,A,M,X]|with_reducible refine z _ _ (p.le d) ?_)
     exact D9 (A37 30) (D2O (by first|exact d|exact F3 d q) h)
    |true=>
     rw[hv]at h z;simp only[true_and,if_true]at h z;by_cases O:E9 f1=B s
     ·rw[if_pos O]at h;subst r;repeat' (first|simp only[go_sem,seval,g,u,A,M,X,O]|with_reducible refine z _ _ (p.le d) ?_)
      exact D2O (F3 d q) h
     ·rw[if_neg O]at h;subst r;repeat' (first|simp only[go_sem,seval,g,u,A,M,X,O]|with_reducible refine z _ _ (p.le d) ?_)
      exact D9 (A37 30) (D2O (by first|exact d|exact F3 d q) h)
   ·rw[if_pos (.inr y)]at h;subst r;repeat' simp only[go_sem,seval,g,u,A,y]
    exact D9 (A37 30) (D2O (by first|exact d|exact F3 d q) h)
end Go.Proofs.YtibphjonmikciaaGreatDoor
namespace Go.Fo
open Go Go.Av Go.Lexs Go.Lin
theorem B8N(l:List Fm)(p:Fm→Bool):(l.any fun f=> !p f)= !l.all p:=by
 induction l with
 |nil=>rfl
 |cons x l d=>rw[D11,D1z,d,Bool.not_and]
theorem C0n{Q:D→Heap→Prop}{H:Heap}{n:Nat}{ob:Option Nat}{o m k x:Int}{e:Bool}{s:ByteArray}{ks:List Fm}(hn:n=ks.length)(ho:OutAt H 7 (Rw C1 ks) ob)(h:Fin Q (.tuple [.agg (C1 (.mk o m ⟨[],k,e⟩ s ks)),.int .i64 x]) (K2 H ob)):
  Fin Q (.tuple [.agg [.int .i64 o,.int .i64 m,.nilsl,.int .i64 k,.bool e,.str s,J3 7 n ob],.int .i64 x]) H:=by
 rw[R2]at h;cases ob with
 |none=>
  have d:Rw C1 ks= []:=ho;refine D9 ?_ h;rw[d];exact B42 (A80 (.nil 2) (.nil 7))
 |some b=>
  have hb:H b=some (.vec 7 (Rw C1 ks)):=ho;subst hn;refine A0q (cs':=[.int .i64 o,.int .i64 m,.sl 2 [],.int .i64 k,.bool e,.str s,.sl 7 (Rw C1 ks)]) hb rfl (fz7 (.nil 2) ?_) h;show Fz b 7 (Rw C1 ks) (.vec b 7 0 ks.length) _;have:=Fz.all (b:=b) (sz:=7) (es:=Rw C1 ks);rwa [D6]at this
end Go.Fo
namespace Go.Proofs.YtibphjonmikciaaGreatDoor
open Go Go.Av Go.Lexs Go.Lin Go.Fo
attribute [local irreducible] ACalls S3
theorem C0o{Q}(f:Fm)(g:FmFit f)(i:VOk f)(H:Heap)(h:Q (.bool (!E7 f)) H):E6 113 [.agg (C1 f)] H Q:=by
 refine B2 [] A8 Tryz.func113 rfl ?_;simp only[go_sem,seval,Tryz.results113];intro e h1;have e1:(H.set e (.box (C1 f))) e=some (.box (C1 f)):=A3 _ _;have d:H.Le (H.set e (.box (C1 f))):=A0 h1;generalize H.set e (.box (C1 f))=Bs at e1 d⊢;repeat' (first|simp only[go_sem,seval,e1]|with_reducible refine Q6 f g i _ ?_)
 exact D2O d h
theorem B8O{Q}(o:Int)(ho:o=5∨o=6)(l:List Fm)(fl: ∀f∈l,FmFit f)(hlen:l.length≤1466015503658)(vl: ∀f∈l,VOk f)(hw:l.all E7=true→J4.wtL l≤900000)(H:Heap)(h:Q (.tuple [.agg (C1 (A2R o l).1),.int .i64 (A2R o l).2]) H):E6 67 [.int .i64 o,.sl 7 (Rw C1 l)] H Q:=by
 refine B2 [(9,.par)] A8 Tryz.func67 rfl ?_;simp only[go_sem,seval,Tryz.results67];intro y g4;obtain⟨Z,U⟩: ∃Z:List D,Z= [.int .i64 0,.int .i64 0,.nilsl,.int .i64 0,.bool false,.str ⟨#[]⟩,.nilsl]:=⟨_,rfl⟩
 rw[←U];have M:(H.set y (.box Z)) y=some (.box Z):=A3 _ _;have z:H.Le (H.set y (.box Z)):=A0 g4;generalize H.set y (.box Z)=Bs at M z⊢;have V: ∀x,H.Le (Bs.set y x):=fun x=>F3 z g4;have T:=fun(Q:D→Heap→Prop) (H:Heap)=>A85 (Q:=Q) (fun f=> !E7 f) l (by omega) 113 [] [] H (fun k hk _ Q hq=>C0o l[k] (fl _ (D1A hk)) (vl _ (D1A hk)) H hq);rw[B8N]at T;unfold A2R at h;cases hv:l.all E7 with
 |false=>
  rw[hv]at h T;simp only[D1C,if_false]at h;rw[U]at M;repeat' (first|simp only[go_sem,seval,M]|with_reducible refine T _ _ ?_)
  exact D9 (A2Q 2) (D2O (V _) h)
 |true=>
  rw[hv]at h T;simp only[if_true]at h;have hw:=hw hv;have nc:=fun(Q:D→Heap→Prop) (H:Heap)=>A88 (Q:=Q) l fl hlen H;have W:=fun(Q:D→Heap→Prop) (H:Heap)=>B2g (Q:=Q) (J8 (E4.intsL l)) (J8 (D0.boolsL l)) H;rw[A1j (l':=E4.intsL l) (m':=D0.boolsL l) (fun x=>G5 _ _) (fun x=>G5 _ _)]at W;cases hm:meetL (E4.intsL l) (D0.boolsL l)with
  |true=>
   rw[hm]at h W;simp only[if_true]at h;rw[U]at M;repeat' (first|simp only[go_sem,seval,M]|with_reducible refine T _ _ ?_|with_reducible refine nc _ _ ?_|with_reducible refine W _ _ ?_)
   exact D9 (A2Q 15) (D2O (V _) h)
  |false=>
   rw[hm]at h W;simp only[D1C,if_false]at h;repeat' (first|simp only[go_sem,seval]|(intro g;try simp only[A6]at g)|with_reducible refine T _ _ ?_|with_reducible refine nc _ _ ?_|with_reducible refine W _ _ ?_)
   rename_i r;have h6:=g;clear g;have X:y≠r:=fun e=>by rw[←e,M]at h6;cases h6
   have c6:(Bs.set r (.box [.int .i64 o,.int .i64 0,.nilsl,.int .i64 0,.bool false,.str ⟨#[]⟩,.nilsl])) r=some (.box [.int .i64 o,.int .i64 0,.nilsl,.int .i64 0,.bool false,.str ⟨#[]⟩,.nilsl]):=A3 _ _;have c4:(Bs.set r (.box [.int .i64 o,.int .i64 0,.nilsl,.int .i64 0,.bool false,.str ⟨#[]⟩,.nilsl])) y=some (.box Z):=by rw[A4 _ X];exact M
   have u:H.Le (Bs.set r (.box [.int .i64 o,.int .i64 0,.nilsl,.int .i64 0,.bool false,.str ⟨#[]⟩,.nilsl])):=z.trans (A0 h6);have Y:H r=none:=z.none h6;generalize Bs.set r (.box [.int .i64 o,.int .i64 0,.nilsl,.int .i64 0,.bool false,.str ⟨#[]⟩,.nilsl])=Cs at c6 c4 u⊢;refine C8 [4,6,20,21] (fun(p:Nat×Option Nat×Heap)=>[(22,.int .i64 p.1)]) (fun(p:Nat×Option Nat×Heap)=>p.2.2) (fun(p:Nat×Option Nat×Heap)=>p.1≤l.length∧AH 7 Cs r (fun x=>[.int .i64 o,.int .i64 0,.nilsl,.int .i64 0,.bool false,.str ⟨#[]⟩,x]) (Rw C1 (l.take p.1)) p.1 p.2.1 p.2.2) (fun(p:Nat×Option Nat×Heap)=>l.length-p.1) ((0,none,Cs)) (⟨D1H _,q8 c6⟩) (by(try simp only[go_sem,seval])<;>(try simp(disch:=omega) [A5])) (by first|exact D2N _|exact A0 (by assumption)|exact B4 (by assumption)|simp only[Heap.Le,Heap.set,Heap.del]at* <;>grind) ?_;rintro Ec rfl ⟨i,ob,Hp⟩ ⟨hi,A⟩;simp only at hi A;by_cases C:i<l.length
   ·have G:decide ((i:Int)<l.length)=true:=D0y (by omega);have a9:(i:Int)<l.length:=by omega
    have b0:=D1A C;repeat' (first|with_reducible apply D0w|simp only[go_sem,seval,G,a9,B3 _ _ C,C3 _ _ C]|(intro g;try simp only[A6]at g)|omega)
    rename_i L;have h8:=g;clear g;obtain⟨d1,d7,dO,dN⟩:=A.at7 h8 (.box (C1 l[i]));refine F4 (fun i'=>.agg (C1 l[i])) [r,L] ?_;have m1:r∈[r,L]:=by simp
    have m7:L∈[r,L]:=by simp
    repeat' (first|simp only[go_sem,seval,d1,d7,m1,m7]|(intro g;try simp only[A6]at g)|with_reducible refine P8 (fun H' Q hro hq=>B3u l[i] (fl _ b0) H' hq) ?_)
    rename_i x;have hx:=g;clear g;obtain⟨a0,b1⟩:=hx;have I:(Hp.set L (.box (C1 l[i]))) x=none:=by rw[A4 _ a0];exact b1
    obtain⟨O,a4⟩:=A5i dO I (.vec 7 [C1 l[i]]);have b2:x∉[r,L]:=by
     simp only[D1O,D1P,or_false,not_or];exact⟨fun e=>(by rw[e,d1]at I;cases I),a0⟩
    have b3: ∀c,ob=some c→c∉[r,L]:=fun c e=>by
     simp only[D1O,D1P,or_false,not_or];exact⟨(A.fresh c e).2,dN c e⟩
    refine A7w 28 96 (n:=i) (m:=1) (bx:=x) (ob:=ob) (es:=Rw C1 (l.take i)) (xs:=[C1 l[i]]) (by simp only[go_sem,seval]) (by decide) (by simp only[go_sem,seval]) (by simp only[go_sem,seval]) (by simp only[go_sem,seval]) (by simp only[go_sem,seval]) (A3 _ _) rfl (by simp) O (M5 _ _ (by omega)).symm b2 a4 b3 (by simp only[D01,D03];omega) (by simp only[D01,D03];omega) fun b' a5=>?_;rw[E8 I]at a5⊢;obtain⟨c0,b7,A'⟩:=A.step h8 _ a5 (C1 l[i]);revert A';generalize b9:((K2 (Hp.set L (.box (C1 l[i]))) ob).set b' (.vec 7 (Rw C1 (l.take i)++[C1 l[i]]))).set r (.box [.int .i64 o,.int .i64 0,.nilsl,.int .i64 0,.bool false,.str ⟨#[]⟩,.vec b' 7 0 (i+1)])=Hf;intro A';repeat' (first|simp only[go_sem,seval,b7,m1]|simp(disch:=omega) only[A5,B3,C5])
    exact C4 (i+1,some b',Hf) ⟨by simp only[];omega,by simp only[];rw[M4 l i C];exact A'⟩ (by simp only[];omega) (by(try simp only[go_sem,seval])<;>(try simp(disch:=omega) [A5])) (by rw[←b9];exact D2N _)
   ·have G:decide ((i:Int)<l.length)=false:=D0z (by omega);have a6:i=l.length:=by omega
    have J:=A.keep y _ X c4;rw[D1B (by omega)]at A;have A1:=A.box;have o1:=A3N 7 i ob;have fo:FmFit (.mk o 0 nilL D5 l):=T7 (by rcases ho with rfl|rfl<;>simp[S5]) hlen fl;have vo:VOk (.mk o 0 nilL D5 l):=.inl (by rw[L9];simp only[Fm.l,Fm.ks,nilL,D03];omega);have vv: ∀Q:D→Heap→Prop,Q (.bool (E7 (.mk o 0 nilL D5 l))) Hp→E6 18 [.agg [.int .i64 o,.int .i64 0,.nilsl,.int .i64 0,.bool false,.str ⟨#[]⟩,J3 7 i ob]] Hp Q:=fun Q hq=>
     A4A (args':=[.agg (C1 (.mk o 0 nilL D5 l))]) rfl (fun j d d' h1 h2=>by
      match j with
      |0=>cases h1;cases h2;exact B94 a6 A.out
      |j+1=>cases h1) (Q6 _ fo vo _ ⟨rfl,hq⟩)
    cases a7:E7 (.mk o 0 nilL D5 l)with
    |false=>
     rw[a7]at h vv;simp only[D1C,if_false]at h;rw[U]at J;repeat' (first|simp only[go_sem,seval,G,A1,J,o1]|with_reducible refine vv _ ?_)
     exact D9 (A2Q 3) (D2O (fun k q hk=>by
      have k4:k≠y:=fun e=>by rw[e,g4]at hk;cases hk
      rw[A4 _ k4];have k6:k≠r:=fun e=>by rw[e,Y]at hk;cases hk
      exact A.keep k q k6 (u _ _ hk)) h)
    |true=>
     rw[a7]at h vv;simp only[if_true]at h;rw[U]at J;repeat' (first|with_reducible apply D0w|simp only[go_sem,seval,G,A1,J,o1]|with_reducible refine vv _ ?_)
     exact C0n a6 (A.out2 c4 _) (D2O (A.le2 u Y g4 _) h)
theorem C7X{Q}(l:List Fm)(d: ∀f∈l,FmFit f)(hlen:l.length≤1466015503658)(e: ∀f∈l,VOk f)(hw:l.all E7=true→J4.wtL l≤900000)(H:Heap)(h:Q (.tuple [.agg (C1 (A2R 5 l).1),.int .i64 (A2R 5 l).2]) H):E6 24 [.sl 7 (Rw C1 l)] H Q:=by
 refine B2 [] A8 Tryz.func24 rfl ?_;simp only[go_sem,seval,Tryz.results24];repeat' (first|simp only[go_sem,seval]|intro g|with_reducible refine B8O 5 (.inl rfl) l d hlen e hw _ ?_)
 exact D2O (A0 (by assumption)) h
theorem C9o{Q}(l:List Fm)(d: ∀f∈l,FmFit f)(hlen:l.length≤1466015503658)(e: ∀f∈l,VOk f)(hw:l.all E7=true→J4.wtL l≤900000)(H:Heap)(h:Q (.tuple [.agg (C1 (A2R 6 l).1),.int .i64 (A2R 6 l).2]) H):E6 26 [.sl 7 (Rw C1 l)] H Q:=by
 refine B2 [] A8 Tryz.func26 rfl ?_;simp only[go_sem,seval,Tryz.results26];repeat' (first|simp only[go_sem,seval]|intro g|with_reducible refine B8O 6 (.inr rfl) l d hlen e hw _ ?_)
 exact D2O (A0 (by assumption)) h
end Go.Proofs.YtibphjonmikciaaGreatDoor
namespace Go.Fo
open Go Go.Av Go.Lexs Go.Lin
abbrev fxT:ByteArray:=⟨#[38,40,120,45,49,62,61,48,44,32,124,40,120,45,51,61,48,44,32,33,63,98,41,41]⟩
abbrev C7Y:ByteArray:=⟨#[124,40,45,120,62,61,48,44,32,38,40,124,40,120,45,52,62,61,48,44,32,45,120,43,50,62,61,48,41,44,32,63,98,41,41]⟩
abbrev C0p:ByteArray:=⟨#[120,62,61,48]⟩
def fxO:Fm:=.mk 6 0 nilL D5 []
theorem B8Q:S (E9 fxF)=fxT∧S (E9 fxN)=C7Y:=by rw[A9B,B72];exact⟨rfl,rfl⟩
theorem A79:A3Q (B fxT)=(fxF,0)∧A3Q (B C0p)=(fxP,0):=by
 have e1:B fxT=E9 fxF:=by rw[A9B];rfl
 have e2:B C0p=E9 fxP:=by rw[B1D];rfl
 rw[e1,e2];exact⟨A6h R5.1 (by rw[A9B];decide),A6h R5.2.1 (by rw[B1D];decide)⟩
theorem B2k:E7 fxP=true∧FmFit fxP∧VOk fxP:=⟨R5.2.1,(Y1 _ A2S.2.1).2,.inl (by have:=B1L.2.1;omega)⟩
theorem A4t:E7 fxN=true∧FmFit fxN∧VOk fxN:=⟨R5.2.2.1,(Y1 _ A2S.2.2.1).2,.inl (by have:=B1L.2.2.1;omega)⟩
theorem B2l:E7 fxA=true∧FmFit fxA∧VOk fxA:=⟨R5.2.2.2,(Y1 _ A2S.2.2.2.1).2,.inl (by have:=B1L.2.2.2;omega)⟩
theorem A6w:A7S fxVals:=⟨by decide,by decide+kernel,fun x hx=>by
 have key: ∀x∈fxVals,x.n.natAbs≤10:=by decide+kernel
 have:=key x hx;unfold S5;omega⟩
theorem C7Z:C1 fxO= [.int .i64 6,.int .i64 0,.sl 2 [],.int .i64 0,.bool false,.str D5,.sl 7 []]:=rfl
theorem B1R{s:ByteArray}(h:s.size≤1000)(d: ∀c∈B s,c.toNat<128):s.size≤20000→∀k,Go.Proofs.YtibphjonmikciaaGreatDoor.A6o ((B s).drop k):=fun _ k=>Go.Proofs.YtibphjonmikciaaGreatDoor.B2i (by rw[D1U,U7];omega) fun c hc=>d c (List.mem_of_mem_drop hc)
end Go.Fo
namespace Go.Proofs.YtibphjonmikciaaGreatDoor
open Go Go.Av Go.Lexs Go.Lin Go.Fo
attribute [local irreducible] ACalls S3
theorem C7a{Q}(H:Heap)(d:Tabs H)(h:Q (.tuple [.str fxT,.int .i64 0]) H):E6 27 [.agg (C1 fxF)] H Q:=
 A9F fxF L1.2.1 L1.2.2.1 H d (by rw[if_pos L1.1,if_pos L1.1,B8Q.1];exact h)
theorem C4b{Q}(H:Heap)(d:Tabs H)(h:Q (.tuple [.str C7Y,.int .i64 0]) H):E6 27 [.agg (C1 fxN)] H Q:=
 A9F fxN A4t.2.1 A4t.2.2 H d (by rw[if_pos A4t.1,if_pos A4t.1,B8Q.2];exact h)
theorem C4c{Q}(H:Heap)(d:Tabs H)(h:Q (.tuple [.agg (C1 fxF),.int .i64 0]) H):E6 29 [.str fxT] H Q:=
 B1Q fxT (B1R (by decide) (by decide)) H d (by rw[A79.1];exact h)
theorem C0q{Q}(H:Heap)(d:Tabs H)(h:Q (.tuple [.agg (C1 fxP),.int .i64 0]) H):E6 29 [.str C0p] H Q:=
 B1Q C0p (B1R (by decide) (by decide)) H d (by rw[A79.2];exact h)
theorem C9p{Q}(H:Heap)(h:Q (.tuple [.bool true,.int .i64 0]) H):E6 37 [.agg (C1 fxF),.agg (C1 fxP)] H Q:=
 C0b fxF fxP L1.2.1 B2k.2.1 L1.2.2.1 B2k.2.2 L1.1 B2k.1 A9H.1 A9H.2.1 false A4r.2.2.1 (Y1 _ A2S.2.2.2.2.2.2.2.1).1 H h
theorem C9q{Q}(H:Heap)(h:Q (.tuple [.agg (C1 fxN),.int .i64 0]) H):E6 16 [.agg (C1 fxF)] H Q:=
 C18 fxF L1.2.1 L1.2.2.1 H (by rw[C4O];exact h)
theorem C9r{Q}(H:Heap)(h:Q (.tuple [.bool true,.int .i64 0]) H):E6 31 [.agg (C1 fxF)] H Q:=
 B8C fxF L1.2.1 L1.2.2.1 L1.1 true A4r.1 H h
theorem C7b{Q}(H:Heap)(h:Q (.tuple [.bool false,.int .i64 0]) H):E6 31 [.agg (C1 fxA)] H Q:=
 B8C fxA B2l.2.1 B2l.2.2 B2l.1 false A4r.2.1 H h
theorem C9s{Q}(H:Heap)(h:Q (.tuple [.agg (C1 fxA),.int .i64 0]) H):E6 24 [.sl 7 (Rw C1 [fxF,fxN])] H Q:=
 C7X [fxF,fxN] (fun f d=>by simp only[D1O,D1P,or_false]at d;rcases d with rfl|rfl;exact L1.2.1;exact A4t.2.1) (by decide)
  (fun f d=>by simp only[D1O,D1P,or_false]at d;rcases d with rfl|rfl;exact L1.2.2.1;exact A4t.2.2) (fun _=>by have:=B1L;simp only[J4.wtL];omega) H (by rw[C4P];exact h)
theorem xOr{Q}(H:Heap)(h:Q (.tuple [.agg (C1 fxO),.int .i64 0]) H):E6 26 [.sl 7 []] H Q:=
 C9o [] (fun f d=>by cases d) (by decide) (fun f d=>by cases d) (fun _=>by simp only[J4.wtL];omega) H (by rw[C7V];exact h)
theorem xAt{Q}(H:Heap)(h:Q (.tuple [.bool true,.int .i64 0]) H):E6 22 [.agg (C1 fxF),.sl 2 (Rw vlC fxVals)] H Q:=
 C9m fxF L1.2.1 L1.2.2.1 fxVals A6w H (by rw[C7U];exact h)
theorem C7c{Q}(H:Heap)(h:Q (.tuple [.sl 1 (Rw I6 [nX]),.sl 1 (Rw I6 [nB]),.int .i64 0]) H):E6 14 [.agg (C1 fxF)] H Q:=
 B7u fxF L1.2.1 L1.2.2.1 H (by rw[if_pos L1.1,B30.1,B30.2];exact h)
theorem C7d{Q}(H:Heap)(h:Q (.tuple [.bool true,.int .i64 0]) H):E6 38 [.agg (C1 fxF),.agg (C1 fxF)] H Q:=
 C0c fxF L1.2.1 L1.2.2.1 L1.1 A9H.2.2.1 A9H.2.2.2 A4r.2.2.2.1 (Y1 _ A2S.2.2.2.2.2.2.2.2.1).1 H h
theorem C4d{Q}(H:Heap)(h:Q (.bool true) H):E6 18 [.agg (C1 fxF)] H Q:=
 Q6 fxF L1.2.1 L1.2.2.1 H (by rw[L1.1];exact h)
set_option maxHeartbeats 4000000 in
theorem B1S{Q}(H:Heap)(J:Tabs H)(h:Q (.bool true) H):E6 13 [] H Q:=by
 refine B2 [(15,.par)] A8 Tryz.func13 rfl ?_;simp only[go_sem,seval,Tryz.results13];have T:=D2N H;repeat' (first|simp only[go_sem,seval]|intro e|with_reducible refine A77 _ ?_|with_reducible refine C7a _ J ?_|with_reducible refine C4c _ J ?_)
 rename_i I;have U:=e;clear e;have d:(H.set I (.box (C1 fxF))) I=some (.box (C1 fxF)):=A3 _ _;have x:=T.trans (A0 (o:=.box (C1 fxF)) U);have V:=J.le x;generalize H.set I (.box (C1 fxF))=H1 at d x V⊢;clear U;repeat' (first|simp only[go_sem,seval,d]|simp(disch:=first|omega|grind) only[B9]|intro e|with_reducible refine B8E _ ?_|with_reducible refine C0q _ V ?_)
 rename_i b7;have L:=e;clear e;have i:(H1.set b7 (.box (C1 fxP))) b7=some (.box (C1 fxP)):=A3 _ _;have d:=(A0 (o:=.box (C1 fxP)) L) _ _ d;have y:=x.trans (A0 (o:=.box (C1 fxP)) L);have a0:=J.le y;generalize H1.set b7 (.box (C1 fxP))=H2 at d i y a0⊢;clear L;repeat' (first|simp only[go_sem,seval,d,i]|intro e|with_reducible refine C9p _ ?_|with_reducible refine C9q _ ?_)
 rename_i M;have u:=e;clear e;have g:(H2.set M (.box (C1 fxN))) M=some (.box (C1 fxN)):=A3 _ _;have d:=(A0 (o:=.box (C1 fxN)) u) _ _ d;have i:=(A0 (o:=.box (C1 fxN)) u) _ _ i;have z:=y.trans (A0 (o:=.box (C1 fxN)) u);have W:=J.le z;generalize H2.set M (.box (C1 fxN))=H3 at d i g z W⊢;clear u;repeat' (first|simp only[go_sem,seval,d,i,g]|intro e|with_reducible refine C4b _ W ?_|with_reducible refine C9r _ ?_)
 rename_i bx;have a4:=e;clear e;refine S2 (es:=Rw C1 [fxF,fxN]) a4 rfl ?_;repeat' (first|simp only[go_sem,seval,d,i,g]|intro e|with_reducible refine C9s _ ?_)
 rename_i O;have p:=e;clear e;have j:(H3.set O (.box (C1 fxA))) O=some (.box (C1 fxA)):=A3 _ _;have d:=(A0 (o:=.box (C1 fxA)) p) _ _ d;have i:=(A0 (o:=.box (C1 fxA)) p) _ _ i;have g:=(A0 (o:=.box (C1 fxA)) p) _ _ g;have A:=z.trans (A0 (o:=.box (C1 fxA)) p);have a5:=J.le A;generalize H3.set O (.box (C1 fxA))=H4 at d i g j A a5⊢;clear p;repeat' (first|simp only[go_sem,seval,d,i,g,j]|with_reducible refine C7b _ ?_|with_reducible refine xAt _ ?_|with_reducible refine C7c _ ?_|with_reducible refine C7d _ ?_)
 refine B1Y 7 ?_;repeat' (first|simp only[go_sem,seval,d,i,g,j]|intro e|with_reducible refine xOr _ ?_)
 rename_i q;have m:=e;clear e;have r:(H4.set q (.box (C1 fxO))) q=some (.box (C1 fxO)):=A3 _ _;have d:=(A0 (o:=.box (C1 fxO)) m) _ _ d;have i:=(A0 (o:=.box (C1 fxO)) m) _ _ i;have g:=(A0 (o:=.box (C1 fxO)) m) _ _ g;have j:=(A0 (o:=.box (C1 fxO)) m) _ _ j;have C:=A.trans (A0 (o:=.box (C1 fxO)) m);have a6:=J.le C;generalize H4.set q (.box (C1 fxO))=H5 at d i g j r C a6⊢;clear m;have m3:I∈[I,q]:=by simp
 have X:q∈[I,q]:=by simp
 have t1:decide ((fxT:ByteArray)=fxT)=true:=D0y rfl;rw[show C1 fxO=_ from C7Z]at r;refine F4 (fun Y=>if Y=12 then .agg (C1 fxF)else if Y=13 then .bool true else if Y=20 then .bool true else if Y=107 then .bool true else .undef) [I,q] ?_;repeat' (first|simp only[go_sem,seval,d,i,g,j,r,m3,X]|intro e|with_reducible refine P8 (fun H' Q hro hq=>A77 H' hq) ?_|with_reducible refine P8 (fun H' Q hro hq=>B1O fxF L1.2.1 H' hq) ?_)
 rename_i bv;have G:=e;clear e;have a7:bv∉[I,q]:=by simp only[D1O,D1P,or_false];rintro(rfl|rfl);rw[d]at G;cases G;rw[r]at G;cases G
 refine C9R (o:=.vec 2 (Rw vlC fxVals)) G rfl a7 (fun H' Q hro hb hq=>A0o hb rfl (C0l fxVals A6w _ hq)) ?_;repeat' (first|with_reducible apply D0w|simp only[go_sem,seval,d,i,g,j,r,m3,X]|intro e|with_reducible refine P8 (fun H' Q hro hq=>C4d H' hq) ?_|omega)
 exact D2O C h
theorem B8R(f:Fm)(L:FmFit f): ∀{Q:D→Heap→Prop} (left:Int) (H:Heap) (h:Q (.int .i64 (V4 f left)) H),E6 43 [.agg (C1 f),.int .i64 left] H Q:=by
 induction L with
 |mk o n l s ks ho hn hl hs hk X M=>
 intro Q left H h;rw[B3v]at h;change Q (.int .i64 (V4.cntK ks (tcF l.t (IntKind.i64.wrap (left-IntKind.i64.wrap (IntKind.i64.wrap (1+s.size / 100)+l.t.length)))))) H at h;have O:=hl.len;rw[A5 (x:=1+(s.size:Int) / 100) (by omega) (by omega),A5 (x:=1+(s.size:Int) / 100+(l.t.length:Int)) (by omega) (by omega)]at h;have e:C1 (.mk o n l s ks)= [.int .i64 o,.int .i64 n,.sl 2 (Rw L4 l.t),.int .i64 l.k,.bool l.e,.str s,.sl 7 (Rw C1 ks)]:=O2 _;rw[e];refine B2 [] A8 Tryz.func43 rfl ?_;simp only[go_sem,seval,Tryz.results43];intro C T;have e2:(H.set C (.box [.int .i64 o,.int .i64 n,.sl 2 (Rw L4 l.t),.int .i64 l.k,.bool l.e,.str s,.sl 7 (Rw C1 ks)])) C=some (.box [.int .i64 o,.int .i64 n,.sl 2 (Rw L4 l.t),.int .i64 l.k,.bool l.e,.str s,.sl 7 (Rw C1 ks)]):=A3 _ _;have y:H.Le (H.set C (.box [.int .i64 o,.int .i64 n,.sl 2 (Rw L4 l.t),.int .i64 l.k,.bool l.e,.str s,.sl 7 (Rw C1 ks)])):=A0 T;generalize H.set C (.box [.int .i64 o,.int .i64 n,.sl 2 (Rw L4 l.t),.int .i64 l.k,.bool l.e,.str s,.sl 7 (Rw C1 ks)])=Bs at e2 y⊢;repeat' (first|with_reducible apply D0w|simp only[go_sem,seval,e2]|simp(disch:=omega) only[A5,B3,C5]|intro z|omega)
 refine C8 [2,23,24] (fun(p:Nat×Int)=>[(25,.int .i64 p.1),(1,.int .i64 p.2)]) (fun(p:Nat×Int)=>Bs) (fun(p:Nat×Int)=>p.1≤l.t.length∧tcF (l.t.drop p.1) p.2=tcF l.t (IntKind.i64.wrap (left-(1+(s.size:Int) / 100+l.t.length)))) (fun(p:Nat×Int)=>l.t.length-p.1) ((0,IntKind.i64.wrap (left-(1+(s.size:Int) / 100+l.t.length)))) (⟨D1H _,rfl⟩) (by(try simp only[go_sem,seval])<;>(try simp(disch:=omega) [A5])) (by first|exact D2N _|exact A0 (by assumption)|exact B4 (by assumption)|simp only[Heap.Le,Heap.set,Heap.del]at* <;>grind) ?_;rintro U rfl ⟨i,n⟩ ⟨V,hv⟩;simp only at V hv;by_cases r:i<l.t.length
 ·have A:decide ((i:Int)<l.t.length)=true:=D0y (by omega);have G:(i:Int)<l.t.length:=by omega
  have hsz:=hl.str _ (D1A r);repeat' (first|with_reducible apply D0w|simp only[go_sem,seval,A,G,B3 _ _ r,C3 _ _ r]|simp(disch:=omega) only[A5,B3,C5]|intro z|omega)
  rw[D1R r,tcF]at hv;exact C4 (i+1,IntKind.i64.wrap (n-(l.t[i].v.size:Int) / 100)) ⟨by simp only[];omega,hv⟩ (by simp only[];omega) (by(try simp only[go_sem,seval])<;>(try simp(disch:=omega) [A5])) (by simp only[E3,D1,D2]at* <;>grind)
 ·have A:decide ((i:Int)<l.t.length)=false:=D0z (by omega);rw[List.drop_of_length_le (by omega),tcF]at hv;rw[←hv]at h;clear hv;repeat' simp only[go_sem,seval,A,e2]
  refine C8 [37,38] (fun(p:Nat×Int)=>[(39,.int .i64 p.1),(1,.int .i64 p.2)]) (fun(p:Nat×Int)=>Bs) (fun(p:Nat×Int)=>p.1≤ks.length∧V4.cntK (ks.drop p.1) p.2=V4.cntK ks n) (fun(p:Nat×Int)=>ks.length-p.1) ((0,n)) (⟨D1H _,rfl⟩) (by(try simp only[go_sem,seval])<;>(try simp(disch:=omega) [A5])) (by first|exact D2N _|exact A0 (by assumption)|exact B4 (by assumption)|simp only[Heap.Le,Heap.set,Heap.del]at* <;>grind) ?_;rintro U rfl ⟨j,m⟩ ⟨W,hw⟩;simp only at W hw;by_cases d:j<ks.length
  ·have q:decide ((j:Int)<ks.length)=true:=D0y (by omega);have u:(j:Int)<ks.length:=by omega
   have I: ∀{Q:D→Heap→Prop} (left:Int) (H:Heap) (h:Q (.int .i64 (V4 ks[j] left)) H),E6 43 [.agg (C1 ks[j]),.int .i64 left] H Q:=M ks[j] (D1A d);rw[D1R d,V4.cntK]at hw;by_cases g:m<0
   ·rw[if_pos g]at hw;have J:=D0y g;repeat' (first|with_reducible apply D0w|simp only[go_sem,seval,q,u,g,J,B3 _ _ d,C3 _ _ d]|intro z|omega)
    rw[hw];exact D2O (y.trans (A0 (by assumption))) h
   ·rw[if_neg g]at hw;have J:=D0z g;repeat' (first|with_reducible apply D0w|simp only[go_sem,seval,q,u,g,J,B3 _ _ d,C3 _ _ d]|simp(disch:=omega) only[A5,B3,C5]|intro z|with_reducible refine I _ _ ?_|omega)
    exact C4 (j+1,V4 ks[j] m) ⟨by simp only[];omega,hw⟩ (by simp only[];omega) (by(try simp only[go_sem,seval])<;>(try simp(disch:=omega) [A5])) (by simp only[E3,D1,D2]at* <;>grind)
  ·have q:decide ((j:Int)<ks.length)=false:=D0z (by omega);rw[List.drop_of_length_le (by omega),V4.cntK]at hw;repeat' simp only[go_sem,seval,q]
   rw[hw];exact D2O y h
theorem C4e{Q}(l:List Fm)(hl:l.length≤1466015503658)(o: ∀f∈l,FmFit f)(H:Heap)(h:Q (.bool (decide (0≤B5C l 600))) H):E6 12 [.sl 7 (Rw C1 l)] H Q:=by
 refine B2 [] A8 Tryz.func12 rfl ?_;simp only[go_sem,seval,Tryz.results12];repeat' (first|with_reducible apply D0w|simp only[go_sem,seval]|simp(disch:=omega) only[A5,B3,C5]|intro g|omega)
 refine C8 [6,7] (fun(p:Nat×Int)=>[(8,.int .i64 p.1),(3,.int .i64 p.2)]) (fun(p:Nat×Int)=>H) (fun(p:Nat×Int)=>p.1≤l.length∧B5C (l.drop p.1) p.2=B5C l 600) (fun(p:Nat×Int)=>l.length-p.1) ((0,600)) (⟨D1H _,rfl⟩) (by(try simp only[go_sem,seval])<;>(try simp(disch:=omega) [A5])) (by first|exact D2N _|exact A0 (by assumption)|exact B4 (by assumption)|simp only[Heap.Le,Heap.set,Heap.del]at* <;>grind) ?_;rintro r rfl ⟨i,n⟩ ⟨q,hv⟩;simp only at q hv;by_cases d:i<l.length
 ·have e:decide ((i:Int)<l.length)=true:=D0y (by omega);have j:(i:Int)<l.length:=by omega
  have m: ∀{Q:D→Heap→Prop} (left:Int) (H:Heap) (h:Q (.int .i64 (V4 l[i] left)) H),E6 43 [.agg (C1 l[i]),.int .i64 left] H Q:=B8R l[i] (o _ (D1A d));rw[D1R d,B5C]at hv;repeat' (first|with_reducible apply D0w|simp only[go_sem,seval,e,j,B3 _ _ d,C3 _ _ d]|simp(disch:=omega) only[A5,B3,C5]|intro g|with_reducible refine m _ _ ?_|omega)
  exact C4 (i+1,V4 l[i] n) ⟨by simp only[];omega,hv⟩ (by simp only[];omega) (by(try simp only[go_sem,seval])<;>(try simp(disch:=omega) [A5])) (by simp only[E3,D1,D2]at* <;>grind)
 ·have e:decide ((i:Int)<l.length)=false:=D0z (by omega);rw[List.drop_of_length_le (by omega),B5C]at hv;rw[←hv]at h;repeat' simp only[go_sem,seval,e]
  first
   |exact D2R h
   |(rw[show decide (n≥0)=decide (0≤n)from rfl];exact D2R h)
theorem C0r{Q}{b n:Nat}{H0:Heap}(d:H0 b=none)(f:Fm)(e:FmFit f)(hn:n=1)(h:Q (.bool (decide (0≤V4 f 600))) H0):E6 12 [.vec b 7 0 n] (H0.set b (.vec 7 [C1 f])) Q:=
 S2 (es:=Rw C1 [f]) d hn (C4e [f] (by simp) (fun x hx=>by rw[D1N]at hx;rw[hx];exact e) H0 h)
end Go.Proofs.YtibphjonmikciaaGreatDoor
namespace Go.Fo
open Go Go.Av Go.Lexs Go.Lin
theorem A5p{Q:D→Heap→Prop}{l:LinV}{i:D}{b:Bool}{g H:Heap}{x d:Nat}{z y:Av.Obj}(j:NilR i (.sl 2 (Rw L4 (N3 l).t)))(hx:g x=none)(r:g d=some z)(m:H d=none)(p:H.Le g)
  (h:Q (.tuple [.agg (C1 (.mk 6 0 nilL D5 [i6 (A1s l),i6 (N3 l)])),.bool b]) H):
  Fin Q (.tuple [.agg [.int .i64 6,.int .i64 0,.nilsl,.int .i64 0,.bool false,.str ⟨#[]⟩,.vec x 7 0 2],.bool b]) ((g.set x (.vec 7 [[.int .i64 2,.int .i64 0,.sl 2 (Rw L4 l.t),.int .i64 (l.k-1),.bool false,.str ⟨#[]⟩,.nilsl],[.int .i64 2,.int .i64 0,i,.int .i64 (-l.k-1),.bool false,.str ⟨#[]⟩,.nilsl]])).set d y):=by
 have u:x≠d:=fun e=>by rw[e,r]at hx;cases hx
 refine A0q (b:=x) (cs':=[.int .i64 6,.int .i64 0,.nilsl,.int .i64 0,.bool false,.str ⟨#[]⟩,.sl 7 [[.int .i64 2,.int .i64 0,.sl 2 (Rw L4 l.t),.int .i64 (l.k-1),.bool false,.str ⟨#[]⟩,.nilsl],[.int .i64 2,.int .i64 0,i,.int .i64 (-l.k-1),.bool false,.str ⟨#[]⟩,.nilsl]]]) (by rw[A4 _ u,A3]) rfl (fz7 (.same _) .all) ?_;refine D9 (d':=.tuple [.agg (C1 (.mk 6 0 nilL D5 [i6 (A1s l),i6 (N3 l)])),.bool b]) (B42 ?_) (D2O (fun k o hk=>?_) h)
 ·have e:C1 (.mk 6 0 nilL D5 [i6 (A1s l),i6 (N3 l)])= [.int .i64 6,.int .i64 0,.sl 2 [],.int .i64 0,.bool false,.str ⟨#[]⟩,.sl 7 [[.int .i64 2,.int .i64 0,.sl 2 (Rw L4 l.t),.int .i64 (l.k-1),.bool false,.str ⟨#[]⟩,.sl 7 []],[.int .i64 2,.int .i64 0,.sl 2 (Rw L4 (N3 l).t),.int .i64 (-l.k-1),.bool false,.str ⟨#[]⟩,.sl 7 []]]]:=rfl;rw[e];exact A80 (.nil 2) (B37 ⟨⟨.inl rfl,.inl rfl,.inl rfl,.inl rfl,.inl rfl,.inl rfl,.inr (.nil 7),trivial⟩,⟨.inl rfl,.inl rfl,.inr j,.inl rfl,.inl rfl,.inl rfl,.inr (.nil 7),trivial⟩,trivial⟩)
 ·have q:k≠x:=fun e=>by rw[←e,p _ _ hk]at hx;cases hx
  have A:k≠d:=fun e=>by rw[e,m]at hk;cases hk
  rw[E5 q,A4 _ A,A4 _ q];exact p _ _ hk
theorem B1T{l:LinV}(hl:validL l=true)(d:L6 l):L6 (N3 l)∧L6 (A1s l):=by
 have ok:=K5 hl;have h:=ok.k;refine⟨⟨by unfold N3;simp only[D1f];exact d.len,fun t e=>?_,fun t e=>?_,by show S5 (-l.k-1);unfold S5;omega⟩,⟨d.len,d.str,d.co,by show S5 (l.k-1);unfold S5;omega⟩⟩
 ·obtain⟨u,g,rfl⟩:=D1u.1 e;exact d.str u g
 ·obtain⟨u,g,rfl⟩:=D1u.1 e;have:=(L7 ok.t u g).2.2;show S5 (-u.c);unfold S5;omega
end Go.Fo
namespace Go.Proofs.YtibphjonmikciaaGreatDoor
open Go Go.Av Go.Lexs Go.Lin Go.Fo
attribute [local irreducible] ACalls S3
set_option maxHeartbeats 4000000 in
theorem C4f{Q}(l:LinV)(hl:validL l=true)(fl:L6 l)(H:Heap)(h:Q (.tuple [.agg (C1 (opR l).1),.bool (opR l).2]) H):E6 93 [.agg (D7 l)] H Q:=by
 refine B2 [(5,.par),(6,.wk),(7,.wk),(11,.par)] A8 Tryz.func93 rfl ?_;simp only[go_sem,seval,Tryz.results93];have ok:=K5 hl;have d3:=ok.len;have d4:=ok.k;intro z g1 u O;simp only[A6]at O;have a9:z≠u:=fun e=>O.1 e.symm;obtain⟨Z,hZ⟩: ∃Z:List D,Z= [.int .i64 0,.int .i64 0,.nilsl,.int .i64 0,.bool false,.str ⟨#[]⟩,.nilsl]:=⟨_,rfl⟩
 rw[←hZ];have e1:((H.set z (.box (D7 l))).set u (.box Z)) z=some (.box (D7 l)):=by rw[A4 _ a9,A3]
 have e2:((H.set z (.box (D7 l))).set u (.box Z)) u=some (.box Z):=A3 _ _;have G:H.Le ((H.set z (.box (D7 l))).set u (.box Z)):=(A0 g1).trans (A0 (by simp only[A6];exact O));have b0: ∀x,H.Le (((H.set z (.box (D7 l))).set u (.box Z)).set u x):=fun x=>F3 G O.2;generalize (H.set z (.box (D7 l))).set u (.box Z)=Bs at e1 e2 G b0⊢;unfold opR at h;cases he:l.e with
 |false=>
  rw[if_neg (by rw[he];decide)]at h;have nc:=fun(Q:D→Heap→Prop) (H:Heap)=>B2K (Q:=Q) l fl H;have ex:D7 l= [.sl 2 (Rw L4 l.t),.int .i64 l.k,.bool false]:=by rw[A4Y,he]
  rw[ex]at nc e1;generalize negateR l=R at h nc;obtain⟨m,e⟩:=R;rw[hZ]at e2;repeat' (first|simp only[go_sem,seval,e1,e2]|simp(disch:=first|omega|grind) only[B9,E5]|(intro g;try simp only[A6]at g)|with_reducible refine nc _ _ ?_)
  have hz:Bs u=some (.box Z):=by rw[hZ];exact e2
  rename_i x;refine D9 (B42 (B7E 2 0 m D5)) (D2O (fun k o hk=>?_) h);have k2:k≠u:=fun e=>by rw[e,O.2]at hk;cases hk
  have kx:k≠x:=fun e=>by rw[←e,G _ _ hk]at g;cases g
  rw[A4 _ k2,A4 _ kx];exact G _ _ hk
 |true=>
  rw[if_pos he]at h;have ex:D7 l= [.sl 2 (Rw L4 l.t),.int .i64 l.k,.bool true]:=by rw[A4Y,he]
  rw[ex]at e1;have d5:(0-l.k).natAbs≤1099511627776:=by omega
  have h0:0-l.k= -l.k:=by omega
  repeat' (first|simp only[go_sem,seval,e1,h0]|simp(disch:=omega) only[A5,B3,C5]|(intro g;try simp only[A6]at g))
  rename_i q;have h6:=g;clear g;have n6:z≠q∧u≠q:=⟨fun e=>(by rw[←e,e1]at h6;cases h6),fun e=>(by rw[←e,e2]at h6;cases h6)⟩
  have c6:(Bs.set q (.box [.nilsl,.int .i64 (-l.k-1),.bool false])) q=some (.box [.nilsl,.int .i64 (-l.k-1),.bool false]):=A3 _ _;have c1:(Bs.set q (.box [.nilsl,.int .i64 (-l.k-1),.bool false])) z=some (.box [.sl 2 (Rw L4 l.t),.int .i64 l.k,.bool true]):=by rw[A4 _ n6.1];exact e1
  have c2:(Bs.set q (.box [.nilsl,.int .i64 (-l.k-1),.bool false])) u=some (.box Z):=by rw[A4 _ n6.2];exact e2
  have a0:H q=none:=G.none h6;have J:H.Le (Bs.set q (.box [.nilsl,.int .i64 (-l.k-1),.bool false])):=G.trans (A0 h6);generalize Bs.set q (.box [.nilsl,.int .i64 (-l.k-1),.bool false])=Cs at c6 c1 c2 J⊢;refine A3e (fun i=>.c .undef) [z] ?_;have m1:z∈[z]:=by simp
  repeat' (first|with_reducible apply D0w|simp only[go_sem,seval,c1,m1]|simp(disch:=omega) only[A5,B3,C5]|simp(disch:=first|omega|grind) only[B9,E5]|(intro g;try simp only[A6]at g))
  rename_i z1;have T:=g;clear g;refine A7c 114 24 (Rw L4 l.t) rfl (by simp only[go_sem,seval,D02,D03,D6,Nat.zero_add]) (by decide) (by simp only[go_sem,seval,D02,D03,D6,Nat.zero_add]) (by simp only[go_sem,seval,D02,D03,D6,Nat.zero_add]) (by simp only[go_sem,seval,D02,D03,D6,Nat.zero_add]) (by simp only[go_sem,seval,D02,D03,D6,Nat.zero_add]) (by simp only[go_sem,seval,D02,D03,D6,Nat.zero_add]) (by first|exact T|(simp only[A6];exact T)) ((fun hk=>by simp only[D1O,D1P,or_false]at hk;rw[hk,c1]at T;cases T)) (by simp only[D03,D02,D6];omega) (by simp only[D03,D02,D6];omega) ?_;repeat' (first|simp only[go_sem,seval]|(intro g;try simp only[A6]at g))
  rename_i y hy r;have U:=g;clear g;refine B79 [(1,.box z 0),(2,.box u 0),(3,.bool false),(6,.box q 0),(7,.box r 0)] (Cs.set r (.box [.sl 2 (Rw L4 l.t),.int .i64 (l.k-1),.bool false])) (A75 (cs:=[.vec y 2 0 l.t.length,.int .i64 (l.k-1),.bool false]) (by simp only[go_sem,seval]) hy U.1 rfl (fun i d d' h1 I=>?_)) ?_
  ·match i with
   |0=>
    cases h1;cases I;have:=Fz.all (b:=y) (sz:=2) (es:=Rw L4 l.t);rwa [D6]at this
   |1=>cases h1;cases I;exact .same _
   |2=>cases h1;cases I;exact .same _
   |i+3=>cases h1
  have n7:z≠r∧u≠r∧q≠r:=⟨fun e=>(by rw[←e,c1]at U;cases U.2),fun e=>(by rw[←e,c2]at U;cases U.2),fun e=>(by rw[←e,c6]at U;cases U.2)⟩
  have d7:(Cs.set r (.box [.sl 2 (Rw L4 l.t),.int .i64 (l.k-1),.bool false])) r=some (.box [.sl 2 (Rw L4 l.t),.int .i64 (l.k-1),.bool false]):=A3 _ _;have d1:(Cs.set r (.box [.sl 2 (Rw L4 l.t),.int .i64 (l.k-1),.bool false])) z=some (.box [.sl 2 (Rw L4 l.t),.int .i64 l.k,.bool true]):=by rw[A4 _ n7.1];exact c1
  have d2:(Cs.set r (.box [.sl 2 (Rw L4 l.t),.int .i64 (l.k-1),.bool false])) u=some (.box Z):=by rw[A4 _ n7.2.1];exact c2
  have d6:(Cs.set r (.box [.sl 2 (Rw L4 l.t),.int .i64 (l.k-1),.bool false])) q=some (.box [.nilsl,.int .i64 (-l.k-1),.bool false]):=by rw[A4 _ n7.2.2];exact c6
  have L:H.Le (Cs.set r (.box [.sl 2 (Rw L4 l.t),.int .i64 (l.k-1),.bool false])):=J.trans (A0 U.2);have d8:H r=none:=J.none U.2;generalize Cs.set r (.box [.sl 2 (Rw L4 l.t),.int .i64 (l.k-1),.bool false])=Ds at d1 d2 d6 d7 L⊢;have b3:(N3 l).t.length=l.t.length:=by unfold N3;simp
  repeat' simp only[go_sem,seval,d1]
  refine C8 [2,6,7,36,37] (fun(p:Nat×Option Nat×Heap)=>[(38,.int .i64 p.1)]) (fun(p:Nat×Option Nat×Heap)=>p.2.2) (fun(p:Nat×Option Nat×Heap)=>p.1≤l.t.length∧AH 2 Ds q (fun x=>[x,.int .i64 (-l.k-1),.bool false]) (Rw L4 ((N3 l).t.take p.1)) p.1 p.2.1 p.2.2) (fun(p:Nat×Option Nat×Heap)=>l.t.length-p.1) ((0,none,Ds)) (⟨D1H _,q8 d6⟩) (by(try simp only[go_sem,seval])<;>(try simp(disch:=omega) [A5])) (by first|exact D2N _|exact A0 (by assumption)|exact B4 (by assumption)|simp only[Heap.Le,Heap.set,Heap.del]at* <;>grind) ?_;rintro Ec rfl ⟨i,ob,Hp⟩ ⟨hi,A⟩;simp only at hi A;by_cases X:i<l.t.length
  ·have V:decide ((i:Int)<l.t.length)=true:=D0y (by omega);have b4:(i:Int)<l.t.length:=by omega
   have d9:(0-l.t[i].c).natAbs≤1048576:=by have:=(L7 ok.t _ (D1A X)).2.2;omega
   have b8:0-l.t[i].c= -l.t[i].c:=by omega
   repeat' simp only[go_sem,seval,V]
   refine O5 [(2,.box u 0),(6,.box q 0),(7,.box r 0),(36,.sl 2 (Rw L4 l.t)),(37,.int .i64 l.t.length),(38,.int .i64 i)] Hp (by simp only[go_sem,seval]) (D2N _) ?_;repeat' (first|with_reducible apply D0w|simp only[go_sem,seval,V,b4,B3 _ _ X,C3 _ _ X]|(intro g;try simp only[A6]at g)|omega)
   rename_i b9;have h9:=g;clear g;obtain⟨f6,f9,fO,fN⟩:=A.at7 h9 (.box [.str l.t[i].v,.int .i64 l.t[i].c]);repeat' (first|simp only[go_sem,seval,f6,f9,b8]|simp(disch:=omega) only[A5,B3,C5]|(intro g;try simp only[A6]at g))
   rename_i x;have hx:=g;clear g;obtain⟨c0,c3⟩:=hx;have a4:(Hp.set b9 (.box [.str l.t[i].v,.int .i64 l.t[i].c])) x=none:=by rw[A4 _ c0];exact c3
   have A9:=A.more h9 (.box [.str l.t[i].v,.int .i64 l.t[i].c]);obtain⟨_,_,c4,_⟩:=A9.at7 a4 (.vec 2 [[.str l.t[i].v,.int .i64 (-l.t[i].c)]]);refine A2c (Rw L4 ((N3 l).t.take i)) (by simp) (by rw[M5 _ _ (by omega)]) c4 (by simp only[D01,D03];omega) (by simp only[D01,D03];omega) fun b' c5=>?_;obtain⟨d0,c7,A'⟩:=A9.step a4 _ c5 [.str l.t[i].v,.int .i64 (-l.t[i].c)];revert A';generalize c8:((K2 ((Hp.set b9 (.box [.str l.t[i].v,.int .i64 l.t[i].c])).set x (.vec 2 [[.str l.t[i].v,.int .i64 (-l.t[i].c)]])) ob).set b' (.vec 2 (Rw L4 ((N3 l).t.take i)++[[.str l.t[i].v,.int .i64 (-l.t[i].c)]]))).set q (.box [.vec b' 2 0 (i+1),.int .i64 (-l.k-1),.bool false])=Hf;intro A';repeat' (first|simp only[go_sem,seval,c7]|simp(disch:=omega) only[A5,B3,C5])
   exact C4 (i+1,some b',Hf) ⟨by simp only[];omega,by simp only[];rw[M4 (N3 l).t i (by omega),show (N3 l).t[i]'(by omega)=⟨l.t[i].v,-l.t[i].c⟩by simp[N3]];exact A'⟩ (by simp only[];omega) (by(try simp only[go_sem,seval])<;>(try simp(disch:=omega) [A5])) (by rw[←c8];exact D2N _)
  ·have V:decide ((i:Int)<l.t.length)=false:=D0z (by omega);have c9:i=l.t.length:=by omega
   rw[D1B (by omega)]at A;have a2:=A.keep u _ (fun e=>n6.2 e) d2;have a7:=A.keep r _ (fun e=>n7.2.2 e.symm) d7;have aH:H.Le Hp:=fun k o hk=>A.keep k o (fun e=>by rw[e,a0]at hk;cases hk) (L k o hk)
   obtain⟨dl,Y,a5,M,hw,q6,W,q7,qH⟩: ∃(dl:D) (Y:Heap),(dl= .nilsl∨dl= .sl 2 (Rw L4 (N3 l).t))∧NilR dl (.sl 2 (Rw L4 (N3 l).t))∧(∀E,Av.Sub [(2,.box u 0),(6,.box q 0),(7,.box r 0),(37,.int .i64 l.t.length),(38,.int .i64 i)] E→A1A [(2,.box u 0),(6,.box q 0),(7,.box r 0),(37,.int .i64 l.t.length),(38,.int .i64 i)] Y E Hp)∧
     Y q=some (.box [dl,.int .i64 (-l.k-1),.bool false])∧Y u=some (.box Z)∧Y r=some (.box [.sl 2 (Rw L4 l.t),.int .i64 (l.k-1),.bool false])∧H.Le Y:=by
    have A1:=A.box;have A2:=A.out;cases ob with
    |none=>
     have hz:Rw L4 (N3 l).t= []:=A2;exact⟨.nilsl,Hp,.inl rfl,(by rw[hz];exact .nil 2),fun E hS=>A5a hS.all (D2N _),A1,a2,a7,aH⟩
    |some c=>
     have hc:Hp c=some (.vec 2 (Rw L4 (N3 l).t)):=A2;have C:=A.fresh c rfl;have k2:u≠c:=fun e=>by rw[←e,d2]at C;cases C.1
     have k7:r≠c:=fun e=>by rw[←e,d7]at C;cases C.1
     refine⟨.sl 2 (Rw L4 (N3 l).t),(Hp.del c).set q (.box [.sl 2 (Rw L4 (N3 l).t),.int .i64 (-l.k-1),.bool false]),.inr rfl,.same _,fun E hS=>A18 hc (B16 hS) fun k o ho=>?_,A3 _ _,by rw[A4 _ n6.2,E5 k2];exact a2,by rw[A4 _ n7.2.2.symm,E5 k7];exact a7,fun k o hk=>?_⟩
     ·by_cases e6:k=q
      ·subst e6;rw[A3]at ho;cases ho;refine⟨C.2.symm,_,A1,.box _ _ _ rfl fun j d d' h1 I=>?_⟩
       match j with
       |0=>
        cases h1;cases I;have:=Fz.all (b:=c) (sz:=2) (es:=Rw L4 (N3 l).t);rw[D6,b3,←c9]at this;exact this
       |1=>cases h1;cases I;exact .same _
       |2=>cases h1;cases I;exact .same _
       |j+3=>cases h1
      ·rw[A4 _ e6]at ho;have kc:k≠c:=fun e=>by rw[e,Heap.del,if_pos rfl]at ho;cases ho
       rw[E5 kc]at ho;exact⟨kc,o,ho,.same _⟩
     ·have k6:k≠q:=fun e=>by rw[e,a0]at hk;cases hk
      have kc:k≠c:=fun e=>by rw[e]at hk;rw[L _ _ hk]at C;cases C.1
      rw[A4 _ k6,E5 kc];exact aH _ _ hk
   repeat' simp only[go_sem,seval]
   refine B79 _ Y (hw _ (by simp only[go_sem,seval])) ?_;clear hw A a2 a7 aH;have m2:q∈[q,r]:=by simp
   have m7:r∈[q,r]:=by simp
   have vc: ∀(Q:D→Heap→Prop) (H:Heap),Q (.bool (validL (N3 l))) H→E6 101 [.agg [dl,.int .i64 (-l.k-1),.bool false]] H Q:=fun Q H hq=>R6 (args':=[.agg (D7 (N3 l))]) rfl (fun i d d' h1 I=>(match i,h1,I with
    |0,h1,I=>by cases h1;cases I;exact B8M ⟨.inr M,.inl rfl,.inl rfl,trivial⟩
    |i+1,h1,I=>by cases h1)) (o9 (N3 l) (B1T hl fl).1 H hq)
   have wc: ∀(Q:D→Heap→Prop) (H:Heap),Q (.bool (validL (A1s l))) H→E6 101 [.agg [.sl 2 (Rw L4 l.t),.int .i64 (l.k-1),.bool false]] H Q:=fun Q H hq=>o9 (A1s l) (B1T hl fl).2 H hq;repeat' simp only[go_sem,seval,V]
   rw[hZ]at W;cases a6:validL (N3 l)with
   |true=>
    rw[a6]at vc h;simp only[Bool.true_and]at h;refine A3e (fun i'=>if i'=7 then .c (.bool true)else if i'=10 then .c (.bool (validL (A1s l)))else .c .undef) [q,r] ?_;rcases a5 with rfl|rfl
    ·repeat' (first|with_reducible apply D0w|simp only[go_sem,seval,W,q6,q7,m2,m7]|simp(disch:=first|omega|grind) only[B9,E5]|(intro g;try simp only[A6]at g)|with_reducible refine P8 (fun H' Q hro hq=>vc _ H' hq) ?_|with_reducible refine P8 (fun H' Q hro hq=>wc _ H' hq) ?_)
     exact A5p M (by assumption) W O.2 qH h
    ·repeat' (first|with_reducible apply D0w|simp only[go_sem,seval,W,q6,q7,m2,m7]|simp(disch:=first|omega|grind) only[B9,E5]|(intro g;try simp only[A6]at g)|with_reducible refine P8 (fun H' Q hro hq=>vc _ H' hq) ?_|with_reducible refine P8 (fun H' Q hro hq=>wc _ H' hq) ?_)
     exact A5p M (by assumption) W O.2 qH h
   |false=>
    rw[a6]at vc h;simp only[Bool.false_and]at h;refine A3e (fun i'=>if i'=7 then .c (.bool false)else if i'=10 then .c (.bool (validL (A1s l)))else .c .undef) [q,r] ?_;rcases a5 with rfl|rfl
    ·repeat' (first|with_reducible apply D0w|simp only[go_sem,seval,W,q6,q7,m2,m7]|simp(disch:=first|omega|grind) only[B9,E5]|(intro g;try simp only[A6]at g)|with_reducible refine P8 (fun H' Q hro hq=>vc _ H' hq) ?_)
     exact A5p M (by assumption) W O.2 qH h
    ·repeat' (first|with_reducible apply D0w|simp only[go_sem,seval,W,q6,q7,m2,m7]|simp(disch:=first|omega|grind) only[B9,E5]|(intro g;try simp only[A6]at g)|with_reducible refine P8 (fun H' Q hro hq=>vc _ H' hq) ?_)
     exact A5p M (by assumption) W O.2 qH h
end Go.Proofs.YtibphjonmikciaaGreatDoor
namespace Go.Fo
open Go Go.Av Go.Lexs Go.Lin
theorem A9L{Q:D→Heap→Prop}{H:Heap}{n:Nat}{ob:Option Nat}{o m k:Int}{e x:Bool}{s:ByteArray}{ks:List Fm}(hn:n=ks.length)(ho:OutAt H 7 (Rw C1 ks) ob)(h:Fin Q (.tuple [.agg (C1 (.mk o m ⟨[],k,e⟩ s ks)),.bool x]) (K2 H ob)):
  Fin Q (.tuple [.agg [.int .i64 o,.int .i64 m,.nilsl,.int .i64 k,.bool e,.str s,J3 7 n ob],.bool x]) H:=by
 rw[R2]at h;cases ob with
 |none=>
  have d:Rw C1 ks= []:=ho;refine D9 ?_ h;rw[d];exact B42 (A80 (.nil 2) (.nil 7))
 |some b=>
  have hb:H b=some (.vec 7 (Rw C1 ks)):=ho;subst hn;refine A0q (cs':=[.int .i64 o,.int .i64 m,.sl 2 [],.int .i64 k,.bool e,.str s,.sl 7 (Rw C1 ks)]) hb rfl (fz7 (.nil 2) ?_) h;have:=Fz.all (b:=b) (sz:=7) (es:=Rw C1 ks);rwa [D6]at this
end Go.Fo
namespace Go.Proofs.YtibphjonmikciaaGreatDoor
open Go Go.Av Go.Lexs Go.Lin Go.Fo
attribute [local irreducible] ACalls S3
set_option maxHeartbeats 4000000 in
theorem C0s(n:Nat): ∀{Q} (f:Fm) (hn:SizeOf.sizeOf f≤n) (hf:G9 D8 f=true) (fa:FmFit f) (b:Bool) (H:Heap) (h:Q (.tuple [.agg (C1 (G6 f b).1),.bool (G6 f b).2]) H),E6 51 [.agg (C1 f),.bool b] H Q:=by
 induction n with
 |zero=>intro Q f hn;cases f;simp at hn
 |succ n ih=>
 intro Q f hn hf fa b H h;refine B2 [(19,.wk)] A8 Tryz.func51 rfl ?_;simp only[go_sem,seval,Tryz.results51];have a9:=fa.kl;intro I g2 u g4;simp only[A6]at g4;have d0:I≠u:=fun e=>g4.1 e.symm;obtain⟨Z,Y⟩: ∃Z:List D,Z= [.int .i64 0,.int .i64 0,.nilsl,.int .i64 0,.bool false,.str ⟨#[]⟩,.nilsl]:=⟨_,rfl⟩
 rw[←Y];have e2:((H.set I (.box (C1 f))).set u (.box Z)) I=some (.box (C1 f)):=by rw[A4 _ d0,A3]
 have r:((H.set I (.box (C1 f))).set u (.box Z)) u=some (.box Z):=A3 _ _;have q:H.Le ((H.set I (.box (C1 f))).set u (.box Z)):=(A0 g2).trans (A0 (by simp only[A6];exact g4));have M: ∀x,H.Le (((H.set I (.box (C1 f))).set u (.box Z)).set u x):=fun x=>F3 q g4.2;have X: ∀x y,H.Le ((((H.set I (.box (C1 f))).set u (.box Z)).set I x).set u y):=fun x y=>F3 (F3 q g2) g4.2;generalize (H.set I (.box (C1 f))).set u (.box Z)=Bs at e2 r q M X⊢;cases S1 hf with
 |con m hm=>
  rw[C13 b rfl]at h;simp only[Fm.n,Fm.l,Fm.s,Fm.ks,R2]at h;rw[Y]at r;have q4: ∀x,(Bs.set I x) u=some (.box Z):=fun x=>by rw[A4 _ d0.symm];rw[Y];exact r
  rw[Y]at q4;rcases hm with rfl|rfl<;>cases b
  all_goals
   repeat' (first|simp only[go_sem,seval,e2,r,q4]|simp(disch:=omega) only[A5,B3,C5])
   first
    |exact D2O (M _) (by simpa using h)
    |exact D2O (X _ _) (by simpa using h)
 |lin l hl hp=>
  rw[C14 b rfl]at h;have fl:L6 l:=fa.lin;cases b with
  |false=>
   simp only[D1C,if_false,R2]at h;rw[Y]at r;repeat' simp only[go_sem,seval,e2,r]
   exact D2O (M _) h
  |true=>
   simp only[if_true,Fm.l]at h;rw[Y]at r;have lc:=fun(Q:D→Heap→Prop) (H:Heap)=>C4f (Q:=Q) l hl fl H;rw[A4Y]at lc;repeat' (first|simp only[go_sem,seval,e2,r]|with_reducible refine lc _ _ ?_)
   exact D2O (M _) h
 |var s hp=>
  rw[C15 b rfl]at h;cases b with
  |false=>
   simp only[D1C,if_false,R2]at h;rw[Y]at r;repeat' simp only[go_sem,seval,e2,r]
   exact D2O (M _) h
  |true=>
   simp only[if_true]at h;have d5:=r;rw[Y]at r;repeat' (first|simp only[go_sem,seval,e2,r]|simp(disch:=first|omega|grind) only[B9,E5]|(intro d;try simp only[A6]at d))
   rename_i x;have d3:x≠u:=fun e=>by rw[e,r]at d;cases d
   refine A9L (ob:=some x) (ks:=[.mk 3 0 nilL s []]) rfl (show (Heap.set _ u _) x=_ by rw[A4 _ d3,A3];simp[Rw,R2]) (D2O (fun k o hk=>?_) h);have k1:k≠x:=fun e=>by rw[←e,q _ _ hk]at d;cases d
   have T:k≠u:=fun e=>by rw[e,g4.2]at hk;cases hk
   show (Heap.del _ _) _=_;rw[E5 k1,A4 _ T,A4 _ k1];exact q _ _ hk
 |not k=>
  rw[C16 b rfl rfl]at h;rw[Y]at r;have r0:(Rw C1 [k]).getD 0 []=C1 k:=rfl;have hsz:SizeOf.sizeOf k<SizeOf.sizeOf (Fm.mk 4 0 nilL D5 [k]):=Q5 (f:=.mk 4 0 nilL D5 [k]) (D07 ..);repeat' (first|with_reducible apply D0w|simp only[go_sem,seval,e2,r,r0]|with_reducible refine ih k (by omega) (K7 hf (D07 ..)) (fa.kid (D07 ..)) (!b) _ ?_|omega)
  all_goals first
   |exact D2O (M _) h
   |decide
   |omega
 |and ks=>
  have b0: ∀k∈ks,G9 D8 k=true:=fun k hk=>K7 (f:=.mk 5 0 nilL D5 ks) hf hk;have b1: ∀k∈ks,FmFit k:=fun k hk=>fa.kid hk;have a9:ks.length≤1466015503658:=a9;rw[B7S b (by simp[Fm.op]) (by simp[Fm.op]) (by simp[Fm.op]) (by simp[Fm.op])]at h;simp only[Fm.op,Fm.ks]at h;apply A1h (C:=fun j G=>H.Le G∧H j=none∧u≠j∧I≠j∧G I=some (.box (C1 (.mk 5 0 nilL D5 ks)))∧G u=some (.box Z)∧G j=some (.box [.int .i64 (opO 5 b),.int .i64 0,.nilsl,.int .i64 0,.bool false,.str ⟨#[]⟩,.nilsl]))
  ·intro hJ;by_cases hb:b=true
   rotate_left
   ·have hb:b=false:=by simpa using hb
    repeat' (first|simp only[go_sem,seval,e2,hb]|(intro d;try simp only[A6]at d))
    rename_i j;have z:=d;clear d;have T:I≠j:=fun e=>by rw[←e,e2]at z;cases z
    have k4:u≠j:=fun e=>by rw[←e,r]at z;cases z
    exact O5 [(1,.bool b),(2,.box I 0),(4,.box u 0),(6,.box j 0),(7,.bool true)] _ (by simp only[go_sem,seval,hb]) (D2N _) (hJ j _ ⟨q.trans (A0 z),q.none z,k4,T,by rw[A4 _ T];exact e2,by rw[A4 _ k4];exact r,by rw[A3,hb];rfl⟩)
   ·repeat' (first|simp only[go_sem,seval,e2,hb]|simp(disch:=omega) only[A5,B3,C5]|simp(disch:=first|omega|grind) only[B9,E5]|(intro d;try simp only[A6]at d))
    rename_i j;have z:=d;clear d;have T:I≠j:=fun e=>by rw[←e,e2]at z;cases z
    have k4:u≠j:=fun e=>by rw[←e,r]at z;cases z
    have q2: ∀x,(Bs.set j x) I=some (.box (C1 (.mk 5 0 nilL D5 ks))):=fun x=>by rw[A4 _ T];exact e2
    repeat' (first|with_reducible apply D0w|simp only[go_sem,seval,q2,hb]|simp(disch:=omega) only[A5,B3,C5]|simp(disch:=first|omega|grind) only[B9,E5]|(intro d;try simp only[A6]at d)|omega)
    refine O5 [(1,.bool b),(2,.box I 0),(4,.box u 0),(6,.box j 0),(7,.bool true)] _ (by simp only[go_sem,seval,hb]) (D2N _) (hJ j _ ⟨fun k o hk=>?_,q.none z,k4,T,?_,?_,?_⟩)
    ·have:k≠j:=fun e=>by rw[e,q.none z]at hk;cases hk
     rw[A4 _ this];exact q _ _ hk
    ·rw[A4 _ T];exact e2
    ·rw[A4 _ k4];exact r
    ·rw[A3,hb];rfl
  rintro j Cs ⟨a0,b3,b7,d4,b8,c0,e6⟩;clear e2 r M X q;have e2:=b8;have r:=c0;obtain⟨oo,c1⟩: ∃oo,oo=opO 5 b:=⟨_,rfl⟩
  rw[←c1]at e6 h;repeat' simp only[go_sem,seval,e2]
  refine C8 [1,4,6,59,60] (fun(p:Nat×Bool×Option Nat×Heap)=>[(61,.int .i64 p.1),(7,.bool p.2.1)]) (fun(p:Nat×Bool×Option Nat×Heap)=>p.2.2.2) (fun(p:Nat×Bool×Option Nat×Heap)=>p.1≤ks.length∧p.2.1=((ks.map (G6 · b)).take p.1).all (·.2)∧AH 7 Cs j (fun x=>[.int .i64 oo,.int .i64 0,.nilsl,.int .i64 0,.bool false,.str ⟨#[]⟩,x]) (Rw C1 (((ks.map (G6 · b)).map (·.1)).take p.1)) p.1 p.2.2.1 p.2.2.2) (fun(p:Nat×Bool×Option Nat×Heap)=>ks.length-p.1) ((0,true,none,Cs)) (⟨D1H _,rfl,q8 e6⟩) (by(try simp only[go_sem,seval])<;>(try simp(disch:=omega) [A5])) (by first|exact D2N _|exact A0 (by assumption)|exact B4 (by assumption)|simp only[Heap.Le,Heap.set,Heap.del]at* <;>grind) ?_;rintro Ec rfl ⟨i,y,ob,Hp⟩ ⟨hi,hy,A⟩;simp only at hi hy A;have J:((ks.map (G6 · b)).map (·.1)).length=ks.length:=by simp
  by_cases L:i<ks.length
  ·have U:decide ((i:Int)<ks.length)=true:=D0y (by omega);have c2:(i:Int)<ks.length:=by omega
   have hm:=D1A L;have hsz:SizeOf.sizeOf ks[i]<SizeOf.sizeOf (Fm.mk 5 0 nilL D5 ks):=Q5 (f:=.mk 5 0 nilL D5 ks) hm;have kc:=fun(Q:D→Heap→Prop) (H:Heap)=>ih (Q:=Q) ks[i] (by omega) (b0 _ hm) (b1 _ hm) b H;obtain⟨g,t,V⟩: ∃g t,G6 ks[i] b=(g,t):=⟨_,_,rfl⟩
   rw[V]at kc;repeat' (first|with_reducible apply D0w|simp only[go_sem,seval,U,c2,B3 _ _ L,C3 _ _ L]|(intro d;try simp only[A6]at d)|with_reducible refine kc _ _ ?_|omega)
   rename_i b9 h9 a4;have a5:=d;clear d;have A9:=A.more h9 (.box (C1 ks[i]));have O:(Hp.set b9 (.box (C1 ks[i]))) a4=none:=by rw[A4 _ a5.1];exact a5.2
   obtain⟨f6,a6,fO,fN⟩:=A9.at7 O (.box (C1 g));have W:=A9.more O (.box (C1 g));generalize (Hp.set b9 (.box (C1 ks[i]))).set a4 (.box (C1 g))=Hr at f6 a6 fO W⊢;repeat' (first|simp only[go_sem,seval,f6,a6]|(intro d;try simp only[A6]at d))
   rename_i x;have hx:=d;clear d;obtain⟨_,_,c3,_⟩:=W.at7 hx (.vec 7 [C1 g]);refine A2c (Rw C1 (((ks.map (G6 · b)).map (·.1)).take i)) (by simp) (by rw[M5 _ _ (by omega)]) c3 (by simp only[D01,D03];omega) (by simp only[D01,D03];omega) fun b' c4=>?_;obtain⟨d2,c5,A'⟩:=W.step hx _ c4 (C1 g);revert A';generalize c6:((K2 (Hr.set x (.vec 7 [C1 g])) ob).set b' (.vec 7 (Rw C1 (((ks.map (G6 · b)).map (·.1)).take i)++[C1 g]))).set j (.box [.int .i64 oo,.int .i64 0,.nilsl,.int .i64 0,.bool false,.str ⟨#[]⟩,.vec b' 7 0 (i+1)])=Hf;intro A';have c7:(y&&t)=((ks.map (G6 · b)).take (i+1)).all (·.2):=by
    rw[D1F (by simpa using L),D10,←hy,D1m,V];simp
   have c8:((ks.map (G6 · b)).map (·.1))[i]'(by rw[J];omega)=g:=by simp[V]
   cases y<;>cases t
   all_goals
    repeat' (first|simp only[go_sem,seval,c5]|simp(disch:=omega) only[A5,B3,C5])
    exact C4 (i+1,_,some b',Hf) ⟨by simp only[];omega,c7,by simp only[];rw[M4 ((ks.map (G6 · b)).map (·.1)) i (by rw[J];omega),c8];exact A'⟩ (by simp only[];omega) (by(try simp only[go_sem,seval])<;>(try simp(disch:=omega) [A5])) (by rw[←c6];exact D2N _)
  ·have U:decide ((i:Int)<ks.length)=false:=D0z (by omega);have c9:i=ks.length:=by omega
   have a7:=A.keep u _ b7 r;rw[D1B (by rw[J];omega)]at A;rw[D1B (by simp;omega)]at hy;rw[←hy]at h;have A1:=A.box;rw[Y]at a7;have o1:=A3N 7 i ob;repeat' (first|with_reducible apply D0w|simp only[go_sem,seval,U,A1,a7,o1]|simp(disch:=first|omega|grind) only[B9,E5])
   exact A9L (ks:=(ks.map (G6 · b)).map (fun x:Fm×Bool=>x.1)) (by rw[J];exact c9) (A.out2 r _) (D2O (A.le2 a0 b3 g4.2 _) h)
 |or ks=>
  have b0: ∀k∈ks,G9 D8 k=true:=fun k hk=>K7 (f:=.mk 6 0 nilL D5 ks) hf hk;have b1: ∀k∈ks,FmFit k:=fun k hk=>fa.kid hk;have a9:ks.length≤1466015503658:=a9;rw[B7S b (by simp[Fm.op]) (by simp[Fm.op]) (by simp[Fm.op]) (by simp[Fm.op])]at h;simp only[Fm.op,Fm.ks]at h;apply A1h (C:=fun j G=>H.Le G∧H j=none∧u≠j∧I≠j∧G I=some (.box (C1 (.mk 6 0 nilL D5 ks)))∧G u=some (.box Z)∧G j=some (.box [.int .i64 (opO 6 b),.int .i64 0,.nilsl,.int .i64 0,.bool false,.str ⟨#[]⟩,.nilsl]))
  ·intro hJ;by_cases hb:b=true
   rotate_left
   ·have hb:b=false:=by simpa using hb
    repeat' (first|simp only[go_sem,seval,e2,hb]|(intro d;try simp only[A6]at d))
    rename_i j;have z:=d;clear d;have T:I≠j:=fun e=>by rw[←e,e2]at z;cases z
    have k4:u≠j:=fun e=>by rw[←e,r]at z;cases z
    exact O5 [(1,.bool b),(2,.box I 0),(4,.box u 0),(6,.box j 0),(7,.bool true)] _ (by simp only[go_sem,seval,hb]) (D2N _) (hJ j _ ⟨q.trans (A0 z),q.none z,k4,T,by rw[A4 _ T];exact e2,by rw[A4 _ k4];exact r,by rw[A3,hb];rfl⟩)
   ·repeat' (first|simp only[go_sem,seval,e2,hb]|simp(disch:=omega) only[A5,B3,C5]|simp(disch:=first|omega|grind) only[B9,E5]|(intro d;try simp only[A6]at d))
    rename_i j;have z:=d;clear d;have T:I≠j:=fun e=>by rw[←e,e2]at z;cases z
    have k4:u≠j:=fun e=>by rw[←e,r]at z;cases z
    have q2: ∀x,(Bs.set j x) I=some (.box (C1 (.mk 6 0 nilL D5 ks))):=fun x=>by rw[A4 _ T];exact e2
    repeat' (first|with_reducible apply D0w|simp only[go_sem,seval,q2,hb]|simp(disch:=omega) only[A5,B3,C5]|simp(disch:=first|omega|grind) only[B9,E5]|(intro d;try simp only[A6]at d)|omega)
    refine O5 [(1,.bool b),(2,.box I 0),(4,.box u 0),(6,.box j 0),(7,.bool true)] _ (by simp only[go_sem,seval,hb]) (D2N _) (hJ j _ ⟨fun k o hk=>?_,q.none z,k4,T,?_,?_,?_⟩)
    ·have:k≠j:=fun e=>by rw[e,q.none z]at hk;cases hk
     rw[A4 _ this];exact q _ _ hk
    ·rw[A4 _ T];exact e2
    ·rw[A4 _ k4];exact r
    ·rw[A3,hb];rfl
  rintro j Cs ⟨a0,b3,b7,d4,b8,c0,e6⟩;clear e2 r M X q;have e2:=b8;have r:=c0;obtain⟨oo,c1⟩: ∃oo,oo=opO 6 b:=⟨_,rfl⟩
  rw[←c1]at e6 h;repeat' simp only[go_sem,seval,e2]
  refine C8 [1,4,6,59,60] (fun(p:Nat×Bool×Option Nat×Heap)=>[(61,.int .i64 p.1),(7,.bool p.2.1)]) (fun(p:Nat×Bool×Option Nat×Heap)=>p.2.2.2) (fun(p:Nat×Bool×Option Nat×Heap)=>p.1≤ks.length∧p.2.1=((ks.map (G6 · b)).take p.1).all (·.2)∧AH 7 Cs j (fun x=>[.int .i64 oo,.int .i64 0,.nilsl,.int .i64 0,.bool false,.str ⟨#[]⟩,x]) (Rw C1 (((ks.map (G6 · b)).map (·.1)).take p.1)) p.1 p.2.2.1 p.2.2.2) (fun(p:Nat×Bool×Option Nat×Heap)=>ks.length-p.1) ((0,true,none,Cs)) (⟨D1H _,rfl,q8 e6⟩) (by(try simp only[go_sem,seval])<;>(try simp(disch:=omega) [A5])) (by first|exact D2N _|exact A0 (by assumption)|exact B4 (by assumption)|simp only[Heap.Le,Heap.set,Heap.del]at* <;>grind) ?_;rintro Ec rfl ⟨i,y,ob,Hp⟩ ⟨hi,hy,A⟩;simp only at hi hy A;have J:((ks.map (G6 · b)).map (·.1)).length=ks.length:=by simp
  by_cases L:i<ks.length
  ·have U:decide ((i:Int)<ks.length)=true:=D0y (by omega);have c2:(i:Int)<ks.length:=by omega
   have hm:=D1A L;have hsz:SizeOf.sizeOf ks[i]<SizeOf.sizeOf (Fm.mk 6 0 nilL D5 ks):=Q5 (f:=.mk 6 0 nilL D5 ks) hm;have kc:=fun(Q:D→Heap→Prop) (H:Heap)=>ih (Q:=Q) ks[i] (by omega) (b0 _ hm) (b1 _ hm) b H;obtain⟨g,t,V⟩: ∃g t,G6 ks[i] b=(g,t):=⟨_,_,rfl⟩
   rw[V]at kc;repeat' (first|with_reducible apply D0w|simp only[go_sem,seval,U,c2,B3 _ _ L,C3 _ _ L]|(intro d;try simp only[A6]at d)|with_reducible refine kc _ _ ?_|omega)
   rename_i b9 h9 a4;have a5:=d;clear d;have A9:=A.more h9 (.box (C1 ks[i]));have O:(Hp.set b9 (.box (C1 ks[i]))) a4=none:=by rw[A4 _ a5.1];exact a5.2
   obtain⟨f6,a6,fO,fN⟩:=A9.at7 O (.box (C1 g));have W:=A9.more O (.box (C1 g));generalize (Hp.set b9 (.box (C1 ks[i]))).set a4 (.box (C1 g))=Hr at f6 a6 fO W⊢;repeat' (first|simp only[go_sem,seval,f6,a6]|(intro d;try simp only[A6]at d))
   rename_i x;have hx:=d;clear d;obtain⟨_,_,c3,_⟩:=W.at7 hx (.vec 7 [C1 g]);refine A2c (Rw C1 (((ks.map (G6 · b)).map (·.1)).take i)) (by simp) (by rw[M5 _ _ (by omega)]) c3 (by simp only[D01,D03];omega) (by simp only[D01,D03];omega) fun b' c4=>?_;obtain⟨d2,c5,A'⟩:=W.step hx _ c4 (C1 g);revert A';generalize c6:((K2 (Hr.set x (.vec 7 [C1 g])) ob).set b' (.vec 7 (Rw C1 (((ks.map (G6 · b)).map (·.1)).take i)++[C1 g]))).set j (.box [.int .i64 oo,.int .i64 0,.nilsl,.int .i64 0,.bool false,.str ⟨#[]⟩,.vec b' 7 0 (i+1)])=Hf;intro A';have c7:(y&&t)=((ks.map (G6 · b)).take (i+1)).all (·.2):=by
    rw[D1F (by simpa using L),D10,←hy,D1m,V];simp
   have c8:((ks.map (G6 · b)).map (·.1))[i]'(by rw[J];omega)=g:=by simp[V]
   cases y<;>cases t
   all_goals
    repeat' (first|simp only[go_sem,seval,c5]|simp(disch:=omega) only[A5,B3,C5])
    exact C4 (i+1,_,some b',Hf) ⟨by simp only[];omega,c7,by simp only[];rw[M4 ((ks.map (G6 · b)).map (·.1)) i (by rw[J];omega),c8];exact A'⟩ (by simp only[];omega) (by(try simp only[go_sem,seval])<;>(try simp(disch:=omega) [A5])) (by rw[←c6];exact D2N _)
  ·have U:decide ((i:Int)<ks.length)=false:=D0z (by omega);have c9:i=ks.length:=by omega
   have a7:=A.keep u _ b7 r;rw[D1B (by rw[J];omega)]at A;rw[D1B (by simp;omega)]at hy;rw[←hy]at h;have A1:=A.box;rw[Y]at a7;have o1:=A3N 7 i ob;repeat' (first|with_reducible apply D0w|simp only[go_sem,seval,U,A1,a7,o1]|simp(disch:=first|omega|grind) only[B9,E5])
   exact A9L (ks:=(ks.map (G6 · b)).map (fun x:Fm×Bool=>x.1)) (by rw[J];exact c9) (A.out2 r _) (D2O (A.le2 a0 b3 g4.2 _) h)
theorem C0t{Q}(f:Fm)(d:G9 D8 f=true)(e:FmFit f)(b:Bool)(H:Heap)(h:Q (.tuple [.agg (C1 (G6 f b).1),.bool (G6 f b).2]) H):E6 51 [.agg (C1 f),.bool b] H Q:=C0s _ f (D1G _) d e b H h
set_option maxHeartbeats 4000000 in
theorem C4g{Q}(f:Fm)(J:FmFit f)(W:VOk f)(H:Heap)(h:Q (.tuple [.agg (C1 (notF f).1),.int .i64 (notF f).2]) H):E6 17 [.agg (C1 f)] H Q:=by
 refine B2 [] A8 Tryz.func17 rfl ?_;simp only[go_sem,seval,Tryz.results17];intro y X i z;simp only[A6]at z;have L:y≠i:=fun e=>z.1 e.symm;have e1:((H.set y (.box (C1 f))).set i (.box [.int .i64 0,.int .i64 0,.nilsl,.int .i64 0,.bool false,.str ⟨#[]⟩,.nilsl])) y=some (.box (C1 f)):=by rw[A4 _ L,A3]
 have e2:((H.set y (.box (C1 f))).set i (.box [.int .i64 0,.int .i64 0,.nilsl,.int .i64 0,.bool false,.str ⟨#[]⟩,.nilsl])) i=some (.box [.int .i64 0,.int .i64 0,.nilsl,.int .i64 0,.bool false,.str ⟨#[]⟩,.nilsl]):=A3 _ _;have p:H.Le ((H.set y (.box (C1 f))).set i (.box [.int .i64 0,.int .i64 0,.nilsl,.int .i64 0,.bool false,.str ⟨#[]⟩,.nilsl])):=(A0 X).trans (A0 (by simp only[A6];exact z));generalize (H.set y (.box (C1 f))).set i (.box [.int .i64 0,.int .i64 0,.nilsl,.int .i64 0,.bool false,.str ⟨#[]⟩,.nilsl])=Bs at e1 e2 p⊢;have M: ∀x,H.Le (Bs.set i x):=fun x=>F3 p z.2;have G:=fun(Q:D→Heap→Prop) (H:Heap)=>A36 (Q:=Q) f J W H;cases hv:E7 f with
 |false=>
  unfold notF at h;rw[hv]at h G;simp only[D1C,if_false]at h;repeat' (first|simp only[go_sem,seval,e1,e2]|with_reducible refine G _ _ ?_)
  exact D9 (A2Q 2) (D2O (M _) h)
 |true=>
  rw[hv]at G;have o:=K1 hv;have hr:=B98 hv;have O:=B3l f true o;have r:=A31 f true o J;have Y:=A6k hv;have T:=fun(Q:D→Heap→Prop) (H:Heap)=>C0t (Q:=Q) f o J true H;rw[←hr]at h;obtain⟨g,t,U⟩: ∃g t,G6 f true=(g,t):=⟨_,_,rfl⟩
  rw[U]at h T O;simp only at h O;cases t with
  |false=>
   simp only[D1C,false_and,if_false]at h;repeat' (first|simp only[go_sem,seval,e1]|simp(disch:=first|omega|grind) only[B9]|(intro d;try simp only[A6]at d)|with_reducible refine G _ _ ?_|with_reducible refine T _ _ ?_)
   rename_i j;have u:=d;clear d;have V:i≠j:=fun e=>by rw[←e,e2]at u;cases u
   have A:(Bs.set j (.box (C1 g))) j=some (.box (C1 g)):=A3 _ _;have C:(Bs.set j (.box (C1 g))) i=some (.box [.int .i64 0,.int .i64 0,.nilsl,.int .i64 0,.bool false,.str ⟨#[]⟩,.nilsl]):=by rw[A4 _ V];exact e2
   have m: ∀x,H.Le ((Bs.set j (.box (C1 g))).set i x):=fun x=>F3 (p.trans (A0 u)) z.2;generalize Bs.set j (.box (C1 g))=Cs at A C m⊢;repeat' simp only[go_sem,seval,A,C,e2]
   exact D9 (A2Q 3) (D2O (m _) h)
  |true=>
   have hg:g=normF f true:=O.1 rfl;rw[←hg]at r;have q:=fun(Q:D→Heap→Prop) (H:Heap)=>A36 (Q:=Q) g r.1 (.inl (by omega)) H;simp only[true_and]at h;repeat' (first|simp only[go_sem,seval,e1]|(intro d;try simp only[A6]at d)|with_reducible refine G _ _ ?_|with_reducible refine T _ _ ?_)
   rename_i j;have u:=d;clear d;have V:i≠j:=fun e=>by rw[←e,e2]at u;cases u
   have A:(Bs.set j (.box (C1 g))) j=some (.box (C1 g)):=A3 _ _;have C:(Bs.set j (.box (C1 g))) i=some (.box [.int .i64 0,.int .i64 0,.nilsl,.int .i64 0,.bool false,.str ⟨#[]⟩,.nilsl]):=by rw[A4 _ V];exact e2
   have m: ∀x,H.Le ((Bs.set j (.box (C1 g))).set i x):=fun x=>F3 (p.trans (A0 u)) z.2;generalize Bs.set j (.box (C1 g))=Cs at A C m⊢;cases I:E7 g with
   |false=>
    rw[I]at h q;simp only[D1C,if_false]at h;repeat' (first|simp only[go_sem,seval,A,C]|with_reducible refine q _ _ ?_)
    exact D9 (A2Q 3) (D2O (m _) h)
   |true=>
    rw[I]at h q;simp only[if_true]at h;repeat' (first|simp only[go_sem,seval,A,C]|with_reducible refine q _ _ ?_)
    exact D2O (m _) h
end Go.Proofs.YtibphjonmikciaaGreatDoor
namespace Go.Fo
open Go Go.Av Go.Lexs Go.Lin
def varsD(f:Fm):List ByteArray×List ByteArray×Int:=if E7 f=true then(ivF f,bvF f,0)else([],[],2)
theorem B1U(f:Fm):(if E7 f=true then D.tuple [.sl 1 (Rw I6 (ivF f)),.sl 1 (Rw I6 (bvF f)),.int .i64 0]else .tuple [.sl 1 [],.sl 1 [],.int .i64 2])= .tuple [.sl 1 (Rw I6 (varsD f).1),.sl 1 (Rw I6 (varsD f).2.1),.int .i64 (varsD f).2.2]:=by
 unfold varsD;split<;>rfl
theorem B5M(f:Fm):(varsD f).1.length≤12∧(varsD f).2.1.length≤12:=by
 unfold varsD;split
 ·rename_i hv;rw[y9]at hv;simp only[D09,D1I]at hv;have:=hv.2;exact⟨by show (ivF f).length≤12;omega,by show (bvF f).length≤12;omega⟩
 ·exact⟨by simp,by simp⟩
theorem C0u{f:Fm}(d:FmFit f):FmFit (notF f).1:=by
 unfold notF;have z:FmFit zeroF:=.mk _ _ _ _ _ (by simp[S5]) (by simp[S5]) A0l (by decide) (by simp) (by simp);split
 ·rename_i hv;split
  ·exact(A31 f true (K1 hv) d).1
  ·exact z
 ·exact z
end Go.Fo
namespace Go.Proofs.YtibphjonmikciaaGreatDoor
open Go Go.Av Go.Lexs Go.Lin Go.Fo
attribute [local irreducible] ACalls S3
set_option maxHeartbeats 4000000 in
theorem B8S{Q}(f:Fm)(o:FmFit f)(H:Heap)(M:Tabs H)(h:Q (.bool true) H):E6 3 [.agg (C1 f)] H Q:=by
 refine B2 [(7,.par)] A8 Tryz.func3 rfl ?_;simp only[go_sem,seval,Tryz.results3];intro p O;have e1:(H.set p (.box (C1 f))) p=some (.box (C1 f)):=A3 _ _;have q:H.Le (H.set p (.box (C1 f))):=A0 O;generalize H.set p (.box (C1 f))=Bs at e1 q⊢;have x:=M.le q;repeat' (intro j;try simp only[A6]at j)
 refine C0r (by assumption) f o rfl ?_;by_cases hc:0≤V4 f 600
 rotate_left
 ·rw[D0z hc];repeat' (first|simp only[go_sem,seval]|with_reducible refine B1S _ x ?_)
  exact D2O q h
 have r:=(C0K o hc).1;rw[D0y hc];have v1: ∀(Q:D→Heap→Prop) (H:Heap),Q (.tuple [.sl 1 (Rw I6 (varsD f).1),.sl 1 (Rw I6 (varsD f).2.1),.int .i64 (varsD f).2.2]) H→E6 14 [.agg (C1 f)] H Q:=fun Q H hq=>B7u f o r H (by rw[B1U];exact hq);have v2: ∀(Q:D→Heap→Prop) (H:Heap),Q (.tuple [.sl 1 (Rw I6 (varsD f).1),.sl 1 (Rw I6 (varsD f).2.1),.int .i64 (varsD f).2.2]) H→E6 15 [.agg (C1 f)] H Q:=fun Q H hq=>C0g f o r H (by rw[B1U];exact hq);have n1:=fun(Q:D→Heap→Prop) (H:Heap)=>C18 (Q:=Q) f o r H;have n2:=fun(Q:D→Heap→Prop) (H:Heap)=>C4g (Q:=Q) f o r H;have G:=C0u o;have J:=B5M f;generalize varsD f=V at v1 v2 J;obtain⟨A,B,e⟩:=V;generalize notF f=N at n1 n2 G;obtain⟨g,e'⟩:=N;simp only at v1 v2 n1 n2 G J;repeat' (first|simp only[go_sem,seval,e1]|simp(disch:=first|omega|grind) only[B9]|(intro j;try simp only[A6]at j)|with_reducible refine v1 _ _ ?_|with_reducible refine v2 _ _ ?_|with_reducible refine n1 _ _ ?_|with_reducible refine n2 _ _ ?_)
 rename_i m T d;have y:=j;clear j;have L:((Bs.set m (.box (C1 g))).set d (.box (C1 g))) m=some (.box (C1 g)):=by rw[A4 _ y.1.symm,A3]
 have z:((Bs.set m (.box (C1 g))).set d (.box (C1 g))) d=some (.box (C1 g)):=A3 _ _;have i:Bs.Le ((Bs.set m (.box (C1 g))).set d (.box (C1 g))):=(A0 T).trans (A0 (A6.2 y));have d1:=i _ _ e1;have C:=x.le i;generalize (Bs.set m (.box (C1 g))).set d (.box (C1 g))=Cs at d1 L z i C⊢;have U:p∈[p,m,d]:=by simp
 have W:m∈[p,m,d]:=by simp
 have I:d∈[p,m,d]:=by simp
 refine F4 (fun u=>if u=1 then .bool (E7 f)else if u=3 then .bool (E7 f)else if u=8 then .bool true else if u=13 then .bool true else if u=23 then .bool true else if u=31 then .bool true else .undef) [p,m,d] ?_;repeat' (first|simp only[go_sem,seval,d1,L,z,U,W,I]|with_reducible refine P8 (fun H' Q hro hq=>Q6 f o r H' hq) ?_|with_reducible refine P8 (fun H' Q hro hq=>A36 f o r H' hq) ?_|with_reducible refine P8 (fun H' Q hro hq=>B1P A (by omega) H' hq) ?_|with_reducible refine P8 (fun H' Q hro hq=>B1P B (by omega) H' hq) ?_|with_reducible refine P8 (fun H' Q hro hq=>B1O g G H' hq) ?_|with_reducible refine P8 (fun H' Q hro hq=>B1S H' (C.hro hro) hq) ?_)
 exact D2O (q.trans i) h
end Go.Proofs.YtibphjonmikciaaGreatDoor
namespace Go.Av
open Go.RowKit Go.ChangeShapes Go.WideShapes
def B1V(P:Program):Nat→List Field→Option Nat
 |o,[]=>some o
 |o,f::r=>if f.offset=o then B1V P (o+P.cellsOf f.type) r else none
def A4u(P:Program)(l:List TypeId)(t:TypeId):Bool:=match P.underlying t with
 |some .bool|some (.int _)|some .string=>decide (P.cellsOf t=1)
 |some (.slice e)=>decide (P.cellsOf t=1)&&l.contains e&&decide (0<P.cellsOf e)&&decide (0<P.bytesOf e)
 |some (.struct fs)=>decide (B1V P 0 fs.toList=some (P.cellsOf t))&&fs.toList.all (fun f=>l.contains f.type)
 |_=>false
def plainB(P:Program)(l:List TypeId):Bool:=l.all (A4u P l)
inductive A0U(P:Program):TypeId→List D→Prop
 |bool {t:TypeId} (b:Bool) (h:P.underlying t=some .bool):A0U P t [.bool b]
 |int {t:TypeId} {k:IntKind} (n:Int) (h:P.underlying t=some (.int k)) (hw:(Lit.int k n).wf=true):A0U P t [.int k n]
 |str {t:TypeId} (s:ByteArray) (h:P.underlying t=some .string) (hs:s.size≤reachBytes):A0U P t [.str s]
 |sl {t e:TypeId} (es:List (List D)) (h:P.underlying t=some (.slice e)) (hl:es.length*P.bytesOf e≤reachBytes) (he: ∀x∈es,A0U P e x):A0U P t [.sl (P.cellsOf e) es]
 |struct {t:TypeId} {fs:Array Field} (ps:List (List D)) (h:P.underlying t=some (.struct fs)) (hl:ps.length=fs.size) (hp: ∀(i:Nat) (f:Field) (p:List D),fs[i]? =some f→ps[i]? =some p→A0U P f.type p):A0U P t ps.flatten
section
variable {H:Type} {enc:TypeId×Value→H} {P:Program}
def B8T(w:World)(Hp:Heap)(ds:List D)(cs:List Value):Prop:=∀(j:Nat) (d:D),ds[j]? =some d→d.one=true∧R w Hp d (cs.getD j Go.undef)
theorem A8A{w:World}{Hp:Heap}{cs:List Value}: ∀(fs:List Field) (o m:Nat) (ps:List (List D)),B1V P o fs=some m→m≤cs.length→ps.length=fs.length→
  (∀(i:Nat) (f:Field) (p:List D),fs[i]? =some f→ps[i]? =some p→p.length=P.cellsOf f.type∧B8T w Hp p ((cs.drop f.offset).take (P.cellsOf f.type)))→
  o≤m∧o+ps.flatten.length=m∧∀(j:Nat) (d:D),ps.flatten[j]? =some d→d.one=true∧R w Hp d (cs.getD (o+j) Go.undef)
 | [],o,m,ps,g,_,hl,_=>by
  have:ps= []:=D1K (by simpa using hl);subst this;simp only[B1V,D1Y]at g;subst g;exact⟨D1G _,by simp,fun j d h=>by simp at h⟩
 |f::r,o,m,ps,g,hm,hl,hp=>by
  cases ps with
  |nil=>simp at hl
  |cons p ps=>
   unfold B1V at g;split at g
   ·rename_i ho;obtain⟨q,u⟩:=hp 0 f p rfl rfl;obtain⟨h1,L,y⟩:=A8A r (o+P.cellsOf f.type) m ps g hm (by simpa using hl) (fun i z A C x=>hp (i+1) z A (by simpa using C) (by simpa using x));refine⟨by omega,by rw[List.flatten_cons,D02,q];omega,fun j d h=>?_⟩;rw[List.flatten_cons,List.getElem?_append]at h;split at h
    ·rename_i G;obtain⟨I,J⟩:=u j d h;refine⟨I,?_⟩;have e:((cs.drop f.offset).take (P.cellsOf f.type)).getD j Go.undef=cs.getD (o+j) Go.undef:=by
      rw[List.getD_eq_getElem?_getD,List.getD_eq_getElem?_getD,List.getElem?_take_of_lt (by omega),List.getElem?_drop,ho]
     rw[←e];exact J
    ·rename_i G;have:=y (j-p.length) d h;have e:o+P.cellsOf f.type+(j-p.length)=o+j:=by omega
     rw[e]at this;exact this
   ·cases g
theorem A2T{e:TypeId}{n:Nat}: ∀{l:List (DataW H)},(DataW.weightsAll P e l).all (· ≤n)=true→∀d∈l,(d.weights P e).all (· ≤n)=true
 | [],_,d,g=>by cases g
 |x::l,h,d,g=>by
  rw[DataW.weightsAll,D10,D09]at h;rcases D1O.1 g with rfl|g
  ·exact h.1
  ·exact A2T h.2 d g
theorem A0V{n:Nat}: ∀{j:List TypeId} {l:List (DataW H)},(DataW.weightsEach P j l).all (· ≤n)=true→∀(i:Nat) t d,j[i]? =some t→l[i]? =some d→(d.weights P t).all (· ≤n)=true
 | [],_,_,i,t,d,e,_=>by simp at e
 |_::_,[],_,i,t,d,_,g=>by simp at g
 |t0::j,m::l,h,i,t,d,e,g=>by
  rw[DataW.weightsEach,D10,D09]at h;cases i with
  |zero=>simp at e g;subst e;subst g;exact h.1
  |succ i=>exact A0V h.2 i t d (by simpa using e) (by simpa using g)
theorem B1W{a:Addr}(hs:a.spot=none)(n:Nat):a.add n=⟨a.block,a.off+n,none⟩:=by
 obtain⟨b,o,s⟩:=a;simp only at hs;subst hs;unfold Addr.add;split
 ·rename_i h;subst h;rfl
 ·rfl
theorem A9M{l:List TypeId}(hB:plainB P l=true){w:World}{base:Nat}{sp:Nat→Bool}{hd:Bool}{Hp:Heap}(hH: ∀b,Hp.held b=false):
  ∀(n:Nat) (t:TypeId) (cs:List Value) (x:DataW H×List MemPlace),t∈l→DataW.trod enc P w base sp hd n t cs=some x→(x.1.weights P t).all (· ≤reachBytes)=true→
   cs.length=P.cellsOf t∧∃ds,A0U P t ds∧ds.length=cs.length∧B8T w Hp ds cs:=by
 intro n
 induction n with
 |zero=>intro t cs x _ h;simp[DataW.trod]at h
 |succ n ih=>
  intro t cs x ht h hw;have o:A4u P l t=true:=D1X.1 hB t ht;unfold A4u at o;have one: ∀{d:D} {v:Value},d.one=true→R w Hp d v→B8T w Hp [d] [v]:=fun h1 h2 j d' C=>by
   cases j with
   |zero=>simp at C;subst C;exact⟨h1,h2⟩
   |succ j=>simp at C
  cases z:P.underlying t with
  |none=>rw[z]at o;cases o
  |some u=>
   cases u with
   |bool=>
    rw[z]at o;obtain⟨b,rfl,rfl⟩:=DataW.trod_bool z h;exact⟨(D0x o).symm,_,.bool b z,rfl,one rfl (.bool b)⟩
   |int k=>
    rw[z]at o;obtain⟨m,rfl,rfl,b4⟩:=DataW.trod_int z h;exact⟨(D0x o).symm,_,.int m z b4,rfl,one rfl (.int k m)⟩
   |string=>
    rw[z]at o;obtain⟨s,rfl,rfl,_⟩:=DataW.trod_string z h;have hsz:s.size≤reachBytes:=by simpa [DataW.weights]using hw
    exact⟨(D0x o).symm,_,.str s z hsz,rfl,one rfl (.str s)⟩
   |slice e=>
    rw[z]at o;simp only[D09,D1I]at o;obtain⟨⟨⟨a4,U⟩,b6⟩,c8⟩:=o;have U:e∈l:=by simpa using U
    rcases DataW.trod_slice z h with⟨rfl,rfl⟩|⟨a,len,cap,A,rest,m,hm,rfl,rfl,hb,b7,c9,hlen,V,_,_⟩
    ·exact⟨a4.symm,_,.sl [] z (by simp) (by simp),rfl,one rfl (.sl0 _ _ _)⟩
    ·cases hm;have a5:(A.length+rest.length)*P.bytesOf e≤reachBytes∧(DataW.weightsAll P e (A.map (·.1))).all (· ≤reachBytes)=true:=by
      rw[DataW.weights,z]at hw;simp only[D1z,D10,D09,D1I,D1f]at hw;exact⟨hw.1,hw.2.1⟩
     have W: ∀i,∃p:List D×List Value,i<len→A0U P e p.1∧p.1.length=P.cellsOf e∧B8T w Hp p.1 p.2∧∀j,j<P.cellsOf e→w.cell? ((a.add (i*P.cellsOf e)).add j)=some (p.2.getD j Go.undef):=by
      intro i;by_cases r:i<len
      ·have M:=V i r;have a6:i<A.length:=by omega
       rw[D1D a6,D08]at M;obtain⟨ci,b8,b9⟩:=M;obtain⟨_,X,c0⟩:=World.cells?_some b8;obtain⟨k1,ds,k2,k3,k4⟩:=ih e ci A[i] U b9 (A2T a5.2 _ (D1u.2 ⟨_,D1A a6,rfl⟩));refine⟨(ds,ci),fun _=>⟨k2,by rw[k3];exact k1,k4,fun j hj=>?_⟩⟩;rw[c0 j hj,List.getD_eq_getElem?_getD,D1D (by rw[X];exact hj)];rfl
      ·exact⟨([],[]),fun h=>absurd h r⟩
     obtain⟨g,L⟩:=Classical.skolem.1 W;have O: ∀(i:Nat) (x:List D),((List.range len).map fun i=>(g i).1)[i]? =some x→i<len∧x=(g i).1:=fun i x hx=>by
      simp only[D1J,D05]at hx;obtain⟨y,M,rfl⟩:=hx;have r:=(D06.1 M).1;simp at r;rw[List.getElem?_range r]at M;cases M;exact⟨r,rfl⟩
     have T:((List.range len).map fun i=>(g i).1).length=len:=by simp
     refine⟨a4.symm,_,.sl ((List.range len).map fun i=>(g i).1) z ?_ ?_,rfl,one rfl ?_⟩
     ·rw[T];refine D12 (D1c _ ?_) a5.1;omega
     ·intro x hx;obtain⟨i,r⟩:=List.mem_iff_getElem?.1 hx;obtain⟨c1,rfl⟩:=O i x r;exact(L i c1).1
     ·show R w Hp (.sl (P.cellsOf e) ((List.range len).map fun i=>(g i).1)) (.slice (some a) len cap);by_cases hz:len=0
      ·subst hz;exact .sl0 _ _ _
      ·have q:=(L 0 (by omega)).2.2.2 0 b6;rw[Nat.zero_mul]at q;have G:a.spot=none:=by
        have e0:(a.add 0).add 0=a:=rfl;rw[e0]at q;unfold World.cell? at q;split at q
        ·split at q
         ·cases q
         ·rename_i a7;cases c2:a.spot with
          |none=>rfl
          |some _=>rw[c2]at a7;exact absurd rfl a7
        ·cases q
       have a9:a.block<w.heap.size:=by
        have e0:(a.add 0).add 0=a:=rfl;rw[e0]at q;unfold World.cell? at q;by_cases c3:a.block<w.heap.size
        ·exact c3
        ·rw[Array.getElem?_eq_none (by omega)]at q;cases q
       have Y: ∀i j,i<len→j<P.cellsOf e→w.cell? ⟨a.block,a.off+i*P.cellsOf e+j,none⟩=some ((g i).2.getD j Go.undef):=fun i j r hj=>by
        have:=(L i r).2.2.2 j hj;rw[B1W G,B1W rfl]at this;exact this
       have hR:=R.sl (w:=w) (H:=Hp) (P.cellsOf e) ((List.range len).map fun i=>(g i).1) a.block a.off cap (fun i j=>(g i).2.getD j Go.undef) a9 (hH _)
        (fun i x hx=>by obtain⟨r,rfl⟩:=O i x hx;exact(L i r).2.1) (by rw[T];exact b7) (fun i j r hj=>Y i j (by rw[T]at r;exact r) hj)
        (fun i x j d hx C=>by obtain⟨r,rfl⟩:=O i x hx;exact((L i r).2.2.1 j d C).1) (fun i x j d hx C=>by obtain⟨r,rfl⟩:=O i x hx;exact((L i r).2.2.1 j d C).2)
       rw[T]at hR;obtain⟨ab,ao,d0⟩:=a;simp only at G;subst G;exact hR
   |struct fs=>
    rw[z]at o;simp only[D09,D1I,D1X]at o;obtain⟨a0,b0⟩:=o;obtain⟨xs,m,hm,rfl,X,d2,V⟩:=DataW.trod_struct z h;cases hm;have c4:(DataW.weightsEach P (fs.toList.map (·.type)) (xs.map (·.1))).all (· ≤reachBytes)=true:=by
     rw[DataW.weights,z]at hw;exact hw
    have W: ∀i:Nat,∃p:List D,∀f:Field,fs[i]? =some f→A0U P f.type p∧p.length=P.cellsOf f.type∧B8T w Hp p ((cs.drop f.offset).take (P.cellsOf f.type)):=by
     intro i;cases I:fs[i]? with
     |none=>exact⟨[],fun f h=>by cases h⟩
     |some f=>
      have r:=(D1L.1 I).1;have b1:i<xs.length:=by omega
      have M:=V i f I;rw[D1D b1]at M;have c5:f.type∈l:=by
       have:=b0 f (by rw[D1b];exact Array.mem_of_getElem? I);simpa using this
      have c6:=A0V c4 i f.type xs[i].1 (by simp[I]) (by simp[D1D b1]);obtain⟨k1,ds,k2,k3,k4⟩:=ih f.type _ xs[i] c5 M c6;refine⟨ds,fun f' J=>?_⟩;cases J;exact⟨k2,by rw[k3];exact k1,k4⟩
    obtain⟨g,L⟩:=Classical.skolem.1 W;have c7:((List.range fs.size).map g).length=fs.size:=by simp
    have b2: ∀(i:Nat) (f:Field) (p:List D),fs[i]? =some f→((List.range fs.size).map g)[i]? =some p→p=g i:=fun i f p I hp=>by
     have r:=(D1L.1 I).1;rw[D1J,List.getElem?_range r]at hp;cases hp;rfl
    obtain⟨_,hlen,b3⟩:=A8A (P:=P) (w:=w) (Hp:=Hp) (cs:=cs) fs.toList 0 (P.cellsOf t) ((List.range fs.size).map g) a0 (by omega) (by simp) (fun i f p I hp=>by
     have J:fs[i]? =some f:=by simpa using I
     have:=b2 i f p J hp;subst this;exact⟨(L i f J).2.1,(L i f J).2.2⟩)
    refine⟨X,_,.struct ((List.range fs.size).map g) z c7 (fun i f p I hp=>by have:=b2 i f p I hp;subst this;exact(L i f I).1),by omega,fun j d hd=>?_⟩;have:=b3 j d hd;rwa [Nat.zero_add]at this
   |_=>rw[z]at o;cases o
def A6x(P:Program)(t:TypeId)(x:D):Prop:=match P.underlying t with
 |some (.struct _)=>∃ds,x= .agg ds∧A0U P t ds
 |_=>A0U P t [x]
theorem B8U{l:List TypeId}(C:plainB P l=true){w:World}{base J:Nat}{L:Nat→Bool}{q:Bool}{Hp:Heap}(M: ∀b,Hp.held b=false){t:TypeId}{v:Value}{d:DataW H}{ps:List MemPlace}(G:t∈l)
  (g:Value.okWide P w .any J t v) (h:DataW.Trod enc P w base L q t v d ps) (hw:(d.weights P t).all (· ≤reachBytes)=true): ∃x,A6x P t x∧R w Hp x v:=by
 obtain⟨n,hn⟩:=h;obtain⟨h1,ds,I,y,r⟩:=A9M C M n t v.cells.toList (d,ps) G hn hw;have o:A4u P l t=true:=D1X.1 C t G;have j:(∀fs,P.underlying t≠some (.struct fs))→v.cells.toList= [v]→∃x,A6x P t x∧R w Hp x v:=by
  intro z hv;rw[hv]at y r
  match ds,y with
  | [x],_=>
   refine⟨x,?_,(r 0 x rfl).2⟩;unfold A6x;split
   ·rename_i fs A;exact absurd A (z fs)
   ·exact I
 cases p:P.underlying t with
 |none=>unfold A4u at o;rw[p]at o;cases o
 |some u=>
  cases u with
  |bool=>obtain⟨b,rfl⟩:=okWide_bool p g;exact j (by simp[p]) rfl
  |int k=>obtain⟨m,rfl⟩:=okWide_int p g;exact j (by simp[p]) rfl
  |string=>obtain⟨s,rfl⟩:=okWide_string p g;exact j (by simp[p]) rfl
  |slice e=>obtain⟨a,len,cap,rfl⟩:=okWide_slice p g;exact j (by simp[p]) rfl
  |struct fs=>
   simp only[Value.okWide,p]at g;obtain⟨cs,rfl,hsz,_⟩:=g;refine⟨.agg ds,?_,.agg _ _ (by rw[y];rfl) (fun i d q=>(r i d q).1) (fun i d q=>?_)⟩
   ·unfold A6x;rw[p];exact⟨ds,rfl,I⟩
   ·have:=(r i d q).2;have e:(Value.agg cs).cells.toList.getD i Go.undef=cs.getD i Go.undef:=by
     show cs.toList.getD i Go.undef=_;simp
    rwa [e]at this
  |_=>unfold A4u at o;rw[p]at o;cases o
theorem B1X{t:TypeId}{ds:List D}(d:P.underlying t=some .string)(h:A0U P t ds): ∃s,ds= [.str s]∧s.size≤reachBytes:=by
 cases h with
 |str s h hs=>exact⟨s,rfl,hs⟩
 |bool b h=>rw[d]at h;cases h
 |int n h=>rw[d]at h;cases h
 |sl es h=>rw[d]at h;cases h
 |struct ps h=>rw[d]at h;cases h
theorem B5N{t:TypeId}{ds:List D}(d:P.underlying t=some .bool)(h:A0U P t ds): ∃b,ds= [.bool b]:=by
 cases h with
 |bool b h=>exact⟨b,rfl⟩
 |str s h hs=>rw[d]at h;cases h
 |int n h=>rw[d]at h;cases h
 |sl es h=>rw[d]at h;cases h
 |struct ps h=>rw[d]at h;cases h
theorem A38{t:TypeId}{k:IntKind}{ds:List D}(d:P.underlying t=some (.int k))(h:A0U P t ds): ∃n,ds= [.int k n]∧(Lit.int k n).wf=true:=by
 cases h with
 |int n h hw=>rw[d]at h;cases h;exact⟨n,rfl,hw⟩
 |bool b h=>rw[d]at h;cases h
 |str s h hs=>rw[d]at h;cases h
 |sl es h=>rw[d]at h;cases h
 |struct ps h=>rw[d]at h;cases h
theorem C0v{t e:TypeId}{ds:List D}(d:P.underlying t=some (.slice e))(h:A0U P t ds): ∃es,ds= [.sl (P.cellsOf e) es]∧es.length*P.bytesOf e≤reachBytes∧∀x∈es,A0U P e x:=by
 cases h with
 |sl es h hl he=>rw[d]at h;cases h;exact⟨es,rfl,hl,he⟩
 |bool b h=>rw[d]at h;cases h
 |str s h hs=>rw[d]at h;cases h
 |int n h=>rw[d]at h;cases h
 |struct ps h=>rw[d]at h;cases h
theorem A5G{t:TypeId}{fs:Array Field}{ds:List D}(d:P.underlying t=some (.struct fs))(h:A0U P t ds): ∃ps:List (List D),ds=ps.flatten∧ps.length=fs.size∧∀(i:Nat) (f:Field) (p:List D),fs[i]? =some f→ps[i]? =some p→A0U P f.type p:=by
 cases h with
 |struct ps h hl hp=>rw[d]at h;cases h;exact⟨ps,rfl,hl,hp⟩
 |bool b h=>rw[d]at h;cases h
 |str s h hs=>rw[d]at h;cases h
 |int n h=>rw[d]at h;cases h
 |sl es h=>rw[d]at h;cases h
theorem A9N{t:TypeId}{fs:Array Field}{x:D}(d:P.underlying t=some (.struct fs))(h:A6x P t x): ∃ds,x= .agg ds∧A0U P t ds:=by
 unfold A6x at h;rw[d]at h;exact h
theorem A9O{n:Int}(h:(Lit.int .i64 n).wf=true): -9223372036854775808≤n∧n≤9223372036854775807:=by
 unfold Lit.wf at h;rw[D09,D1I,D1I]at h;exact h
theorem A39(hl:laidOutB P=true){W j:World}(hb:Below W.heap.size W j): ∀{g:List TypeId} {vs:List Value} {ds:List (DataW H)} {ps:List MemPlace},g.all (fun t=>P.readableRec t&&decide (t<P.types.size))=true→
  DataW.TrodAll enc P W 0 (fun _=>true) true g vs ds ps→(∀x∈ps,x.block<W.heap.size)→DataW.TrodAll enc P j 0 (fun b=>decide (b<W.heap.size)) true g vs ds ps
 | [],[],[],_,_,h,_=>h
 | [],[],_::_,_,_,h,_=>h.elim
 | [],_::_,_,_,_,h,_=>h.elim
 |_::_,[],_,_,_,h,_=>h.elim
 |_::_,_::_,[],_,_,h,_=>h.elim
 |t::g,v::vs,d::ds,ps,i,h,e=>by
  obtain⟨p,q,h1,m,rfl⟩:=h;simp only[D1z,D09,D1I]at i;exact⟨p,q,Below.trod hl i.1.1 i.1.2 h1 hb (fun x hx=>e x (List.mem_append_left _ hx)),A39 hl hb i.2 m (fun x hx=>e x (List.mem_append_right _ hx)),rfl⟩
theorem B5O{f:Nat}{fn:Func}{s:ChangeSpec}{W:World}{args:Array Value}{ds M:List (DataW H)}{g:List MemPlace}{tb:TypeId}(m:laidOutB P=true)(o:fn.params.toList.all (fun t=>P.readableRec t&&decide (t<P.types.size))=true)
  (hv:s.vars= []) (u:fn.resultTypes= #[tb]) (hb:P.underlying tb=some .bool) (hs:s.fn H ds= {results:=[.lit (.bool true)],args:=ds})
  (z:DataW.Whole enc P fn.params.toList s.vars false W args.toList ds M g) (Hp:Heap) (O: ∀b,Hp.held b=false) (T:Sat Hp W) (xs:List D) (hx:xs.length=args.size) (U: ∀(i:Nat) d,xs[i]? =some d→R W Hp d (args.getD i Go.undef))
  (V: ∀Q:D→Heap→Prop,Q (.bool true) Hp→ACalls P f xs Hp Q):Calls P f args W fun e A=>∃v,e= .returned v∧s.post enc P fn false true false false W args v A:=by
 have C:=z.lt;have G:=z;obtain⟨p,q,I,L,rfl,X,Y⟩:=z;rw[hv]at L;obtain⟨rfl,rfl⟩:=trodVars_none L;refine((V (fun d _=>d= .bool true) rfl).2 W args hx U T).mono fun e A ⟨v,he,d,H',h1,h2,y,h4,h5⟩=>⟨v,he,?_⟩
 subst h5;have J:=h1.bool_inv;subst J;have j:Below W.heap.size W A:=⟨y.os,y.tape,y.output,y.size,fun k hk=>y.block k hk (O k)⟩
 have r:s.fn H (ds++[])= {results:=[.lit (.bool true)],args:=ds}:=by rw[D1l];exact hs
 refine⟨ds,[],p++[],[],p,[],G,?_,?_,?_,j.frame _,fun h=>by cases h⟩
 ·rw[r,u];exact trodAll_mk1 (shut_bool hb true)
 ·rw[r];exact A39 m j o I (fun x hx=>C x (by simpa using hx))
 ·rw[r,hv];exact rfl
theorem A9P{P:Program}{w:World}: ∀{l:List (String×DataW Unit)} {ps:List MemPlace},DataW.LaidVars P w l ps→∀n d,(n,d)∈l→
  ∃g t cs fuel p,P.globalNamed n=some g∧(P.globals[g]?).map (·.type)=some t∧w.var? P n=some cs∧DataW.trod (fun _=>()) P w 0 (fun _=>true) false fuel t cs.toList=some (d,p)
 | [],_,_,n,d,h=>by cases h
 |(o,u)::r,ps,h,n,d,hm=>by
  obtain⟨g,t,cs,fuel,p,q,h1,i,j,m,h5,_⟩:=h;rcases D1O.1 hm with e|hm
  ·cases e;exact⟨g,t,cs,fuel,p,h1,i,j,m⟩
  ·exact A9P h5 n d hm
theorem C0w{P:Program}{W:World}{laid:List (String×DataW Unit)}(h:laidMet P laid W){name:String}{k:IntKind}{A:List Int}(hm:(name,Lib.tabData k A)∈laid){g:Nat}{t e:TypeId}{n:Nat}
  (C:P.globalNamed name=some g) (q:(P.globals[g]?).map (·.type)=some t) (G:P.underlying t=some (.array n e)) (he:P.underlying e=some (.int k)) (r:P.cellsOf e=1) (u:P.cellsOf t=n) (Hp:Heap):ObjOk W Hp g (.ro (B0e k A)):=by
 obtain⟨ps,hl,_⟩:=h;obtain⟨L,M,cs,fuel,p,x,y,i,o⟩:=A9P hl _ _ hm;obtain rfl:=Option.some.inj (C.symm.trans x);obtain rfl:=Option.some.inj (q.symm.trans y);have m:=Lib.cells_of_tab G he r u o;unfold World.var? at i;rw[C]at i;simp only[D1Q]at i;split at i
 ·rename_i c T I hw;cases i;refine⟨cs,T,I,hw,by rw[←D1n,m];simp[B0e],fun j d o=>?_⟩;simp only[B0e,D1J,D05]at o;obtain⟨z,J,rfl⟩:=o;have e:cs.getD j Go.undef= .int k z:=by
   rw[show cs.getD j Go.undef=cs.toList.getD j Go.undef by simp,m];simp[J]
  rw[e];exact⟨rfl,.int _ _⟩
 ·cases i
end
end Go.Av
section
set_option maxRecDepth 100000
namespace Go.Proofs.YtibphjonmikciaaGreatDoor
open Go Go.Av Go.Lexs Go.Lin
theorem own:ownKnob Tryz.prog.godebug=none:=by kernel_rfl
theorem C0x:laidOutB Tryz.prog=true:=by kernel_rfl
def A9Q(u v:Nat):Heap:=fun g=>if g=1 then some (.ro (B0e .u64 Lib.pow10Tab))
 else if g=2 then some (.ro [.iface u .undef])
 else if g=3 then some (.ro [.iface v .undef])else none
theorem A8B(u v:Nat)(b:Nat):(A9Q u v).held b=false:=by
 cases h:A9Q u v b with
 |none=>exact I1 h
 |some o=>
  have: ∃cs,o= .ro cs:=by
   unfold A9Q at h;repeat' (split at h;· cases h;exact⟨_,rfl⟩)
   cases h
  obtain⟨cs,rfl⟩:=this;rw[J5 h];rfl
theorem B5P(u v:Nat):Tabs (A9Q u v):=by
 refine⟨?_,⟨u,?_⟩,⟨v,?_⟩⟩<;>(unfold A9Q;simp only[Nat.reduceEqDiff,if_true,if_false])
theorem B38{P:Program}{W:World}{laid:List (String×DataW Unit)}(h:laidMet P laid W){name C:String}{x:DataW Unit}(hm:(name,DataW.iface C x)∈laid){g:Nat}{t:TypeId}{ms:Array String}
  (z:P.globalNamed name=some g) (q:(P.globals[g]?).map (·.type)=some t) (A:(match P.underlying t with|some (.interface _)=>true|_=>false)=true) (Hp:Heap): ∃u,ObjOk W Hp g (.ro [.iface u .undef]):=by
 obtain⟨ps,hl,_⟩:=h;obtain⟨J,L,cs,fuel,p,r,y,i,m⟩:=A9P hl _ _ hm;obtain rfl:=Option.some.inj (z.symm.trans r);obtain rfl:=Option.some.inj (q.symm.trans y);have hc: ∃u v,cs.toList= [.iface u v]:=by
  cases fuel with
  |zero=>simp[DataW.trod]at m
  |succ fuel=>
   unfold DataW.trod at m;split at A
   ·rename_i ms G;rw[G]at m;split at m<;>first|(rename_i h1 M;cases h1;done)|skip
    all_goals first|exact⟨_,_,by assumption⟩|(simp at m;done)
   ·cases A
 obtain⟨u,v,o⟩:=hc;unfold World.var? at i;rw[z]at i;simp only[D1Q]at i;split at i
 ·rename_i c T I hw;cases i;refine⟨u,cs,T,I,hw,by rw[←D1n,o];rfl,fun j d m=>?_⟩
  match j,m with
  |0,m=>
   cases m;have e:cs.getD 0 Go.undef= .iface u v:=by
    rw[show cs.getD 0 Go.undef=cs.toList.getD 0 Go.undef by simp,o];rfl
   rw[e];exact⟨rfl,.iface _ _ _ (.undef _)⟩
  |j+1,m=>cases m
 ·cases i
theorem B8V:(Rows.laid_internal_strconv_uint64pow10:DataW Unit)=Lib.tabData .u64 Lib.pow10Tab:=by kernel_rfl
theorem B8W{W:World}{laid:List (String×DataW Unit)}(h:laidMet Tryz.prog laid W)(h1:("internal/strconv.uint64pow10",(Rows.laid_internal_strconv_uint64pow10:DataW Unit))∈laid)(p:("strconv.ErrSyntax",(Rows.laid_strconv_ErrSyntax:DataW Unit))∈laid)(q:("strconv.ErrRange",(Rows.laid_strconv_ErrRange:DataW Unit))∈laid):
  ∃u v,Sat (A9Q u v) W:=by
 rw[B8V]at h1;obtain⟨u,r⟩:=B38 (ms:= #[]) h p (g:=2) (by kernel_rfl) (t:=140) (by kernel_rfl) (by kernel_rfl) (fun _=>none);obtain⟨v,hv⟩:=B38 (ms:= #[]) h q (g:=3) (by kernel_rfl) (t:=140) (by kernel_rfl) (by kernel_rfl) (fun _=>none);refine⟨u,v,?_⟩;intro b o hb;unfold A9Q at hb;have mono: ∀{b x:Nat},ObjOk W (fun _=>none) b (.ro [.iface x .undef])→ObjOk W (A9Q u v) b (.ro [.iface x .undef]):=fun {b x} ⟨c,T,z,A,C,m⟩=>⟨c,T,z,A,C,fun j d i=>⟨(m j d i).1,by
  have:=(m j d i).2
  match j,i with
  |0,i=>
   cases i;generalize c.getD 0 Go.undef=y at this⊢;cases this with
   |iface _ _ v hr=>exact .iface _ _ _ (.undef _)
  |j+1,i=>cases i⟩⟩
 split at hb
 ·rename_i e;cases hb;subst e;exact C0w h h1 (by kernel_rfl) (t:=(Tryz.prog.globals[1]?.map (·.type)).getD 0) (by kernel_rfl) (n:=20) (e:=196) (by kernel_rfl) (by kernel_rfl) (by kernel_rfl) (by kernel_rfl) _
 split at hb
 ·rename_i e;cases hb;subst e;exact mono r
 split at hb
 ·rename_i e;cases hb;subst e;exact mono hv
 ·cases hb
theorem B2m{α :Type}: ∀(l:List α),l.length=3→∃a b c,l= [a,b,c]
 | [a,b,c],_=>⟨a,b,c,rfl⟩
 | [],h=>by cases h
 | [_],h=>by cases h
 | [_,_],h=>by cases h
 |_::_::_::_::_,h=>by simp at h
theorem B8X{α :Type}: ∀(l:List α),l.length=2→∃a b,l= [a,b]
 | [a,b],_=>⟨a,b,rfl⟩
 | [],h=>by cases h
 | [_],h=>by cases h
 |_::_::_::_,h=>by simp at h
theorem B8Y{α :Type}{f: α →List D}{p: α →Prop}: ∀(es:List (List D)),(∀x∈es,∃t,x=f t∧p t)→∃l:List α,es=Rw f l∧∀t∈l,p t
 | [],_=>⟨[],rfl,by simp⟩
 |x::es,h=>by
  obtain⟨t,rfl,e⟩:=h x (by simp);obtain⟨l,rfl,hl⟩:=B8Y es (fun y g=>h y (by simp[g]));refine⟨t::l,rfl,fun u d=>?_⟩;rcases D1O.1 d with rfl|d
  ·exact e
  ·exact hl u d
theorem C0y{el:List D}(h:A0U Tryz.prog 114 el): ∃t:LTm,el=L4 t∧(t.v.size≤140737488351232∧S5 t.c):=by
 have d:reachBytes=140737488351232:=rfl;obtain⟨ps,rfl,hl,hp⟩:=A5G Tryz.underlying114 h;obtain⟨e,g,rfl⟩:=B8X ps hl;obtain⟨s,rfl,hs⟩:=B1X (by kernel_rfl) (hp 0 _ _ rfl rfl);obtain⟨n,rfl,hn⟩:=A38 (k:=.i64) (by kernel_rfl) (hp 1 _ _ rfl rfl);exact⟨⟨s,n⟩,rfl,by simp only[];omega,A9O hn⟩
theorem B8Z{el:List D}(h:A0U Tryz.prog 25 el): ∃a:LinV,el=D7 a∧L6 a:=by
 have j:reachBytes=140737488351232:=rfl;obtain⟨ps,rfl,hl,hp⟩:=A5G Tryz.underlying25 h;obtain⟨r,u,x,rfl⟩:=B2m ps hl;obtain⟨es,rfl,he,g⟩:=C0v (e:=114) (by kernel_rfl) (hp 0 _ _ rfl rfl);obtain⟨k,rfl,hk⟩:=A38 (k:=.i64) (by kernel_rfl) (hp 1 _ _ rfl rfl);obtain⟨b,rfl⟩:=B5N (by kernel_rfl) (hp 2 _ _ rfl rfl);have m:Tryz.prog.cellsOf 114=2:=by kernel_rfl
 have o:Tryz.prog.bytesOf 114=24:=by kernel_rfl
 rw[o]at he;obtain⟨l,rfl,d⟩:=B8Y (f:=L4) (p:=fun t=>t.v.size≤140737488351232∧S5 t.c) es (fun y q=>C0y (g y q));rw[D6]at he;rw[m];exact⟨⟨l,k,b⟩,rfl,by simp only[];omega,fun t i=>(d t i).1,fun t i=>(d t i).2,A9O hk⟩
open Go Go.Av Go.Lexs Go.Lin Go.Fo
theorem B5Q{α :Type}: ∀(l:List α),l.length=5→∃a b c d e,l= [a,b,c,d,e]
 | [a,b,c,d,e],_=>⟨a,b,c,d,e,rfl⟩
 | [],h=>by cases h
 | [_],h=>by cases h
 | [_,_],h=>by cases h
 | [_,_,_],h=>by cases h
 | [_,_,_,_],h=>by cases h
 |_::_::_::_::_::_::_,h=>by simp at h
def FmD(ds:List D):Prop:=∃f,ds=C1 f∧FmFit f
def C9t(ds:List D):Prop:=∃l,ds= [.sl 7 (Rw C1 l)]∧l.length≤1466015503658∧∀k∈l,FmFit k
theorem B2n{t:TypeId}{ds:List D}(h:A0U Tryz.prog t ds):(t=28→FmD ds)∧(t=26→C9t ds):=by
 have m:reachBytes=140737488351232:=rfl;have e:Tryz.prog.underlying 28=_:=Tryz.underlying28;have g:Tryz.prog.underlying 26=some (.slice 28):=by kernel_rfl
 have q:Tryz.prog.cellsOf 28=7:=by kernel_rfl
 have r:Tryz.prog.bytesOf 28=96:=by kernel_rfl
 induction h with
 |bool b h=>exact⟨(by rintro rfl;rw[e]at h;cases h),(by rintro rfl;rw[g]at h;cases h)⟩
 |int n h hw=>exact⟨(by rintro rfl;rw[e]at h;cases h),(by rintro rfl;rw[g]at h;cases h)⟩
 |str s h hs=>exact⟨(by rintro rfl;rw[e]at h;cases h),(by rintro rfl;rw[g]at h;cases h)⟩
 |sl es h hl he i=>
  refine⟨(by rintro rfl;rw[e]at h;cases h),?_⟩;rintro rfl;rw[g]at h;cases h;rw[r]at hl;obtain⟨l,rfl,d⟩:=B8Y (f:=C1) (p:=FmFit) es (fun y u=>(i y u).1 rfl);rw[D6]at hl;rw[q];exact⟨l,rfl,by omega,d⟩
 |struct ps h hl hp i=>
  refine⟨?_,(by rintro rfl;rw[g]at h;cases h)⟩;rintro rfl;rw[e]at h;cases h;obtain⟨z,A,C,G,I,rfl⟩:=B5Q ps hl;obtain⟨o,rfl,ho⟩:=A38 (k:=.i64) (by kernel_rfl) (hp 0 _ _ rfl rfl);obtain⟨n,rfl,hn⟩:=A38 (k:=.i64) (by kernel_rfl) (hp 1 _ _ rfl rfl);obtain⟨a,rfl,x⟩:=B8Z (hp 2 _ _ rfl rfl);obtain⟨s,rfl,hs⟩:=B1X (by kernel_rfl) (hp 3 _ _ rfl rfl);obtain⟨l,rfl,j,d⟩:=(i 4 _ _ rfl rfl).2 rfl;refine⟨.mk o n a s l,?_,.mk _ _ _ _ _ (A9O ho) (A9O hn) x (by omega) j d⟩;rw[O2];rfl
theorem B2o{x:D}(h:A6x Tryz.prog 28 x): ∃f:Fm,x= .agg (C1 f)∧FmFit f:=by
 obtain⟨ds,rfl,hv⟩:=A9N Tryz.underlying28 h;obtain⟨f,rfl,d⟩:=(B2n hv).1 rfl;exact⟨f,rfl,d⟩
theorem C0z:plainB Tryz.prog [28,26,22,25,114,23,71,40,4,3,9]=true:=by kernel_rfl
theorem C00:laidOutB Tryz.pinned.checked.prog=true:=by kernel_rfl
theorem B8a:mapsRowed Tryz.pinned.checked.prog=true:=by kernel_rfl
theorem B8b:Tryz.pinned.checked.prog.stopsHeard=true:=by kernel_rfl
theorem C4h:Tryz.pinned.checked.prog.mayEnter=true:=by kernel_rfl
end Go.Proofs.YtibphjonmikciaaGreatDoor
end
