/- Part of the proof: what the last text builds on. No condition stands here. -/
import Derived.Test.YtibphjonmikciaaGreatDoorProg
import Derived.Test.YtibphjonmikciaaGreatDoorRows
import Derived.Test.YtibphjonmikciaaGreatDoorCards
import Derived.Test.YtibphjonmikciaaGreatDoorTie
import Derived.Test.YtibphjonmikciaaGreatDoorBc5
set_option linter.unusedSimpArgs false
set_option linter.unusedVariables false
set_option maxRecDepth 20000
namespace Go.Fo
open Go Go.Av Go.Lexs Go.Lin
def A5J(f:Fm):Bool:=I5 (fun g=>E4 g&&decide (g.ks.length≤1000)) f
theorem X4: ∀f:Fm,A5J f=true→I5 E4 f=true∧FmFit f:=by
 intro f
 induction f using T7 with
 |h o n l s ks i=>
  intro h;unfold A5J at h;rw[A2Y,D0l,D0l]at h;obtain⟨⟨h1,d⟩,e⟩:=h;have d:=D0Z d;have e:=D09.1 e;have d:ks.length≤1000:=d;have hk: ∀k∈ks,I5 E4 k=true∧FmFit k:=fun k hk=>i k hk (e k hk);have j:I5 E4 (.mk o n l s ks)=true:=by
   rw[A2Y,D0l];exact⟨h1,D09.2 fun k hm=>(hk k hm).1⟩
  refine⟨j,?_⟩;cases B61 h1 with
  |con n h=>exact .mk _ _ _ _ _ (by simp[U6]) (by rcases h with rfl|rfl<;>simp[U6]) A0Y (by decide) (by simp) (by simp)
  |lin l h hp=>
   have ok:=M0 h;refine A16 ⟨by have:=ok.len;omega,fun t g=>?_,fun t g=>?_,?_⟩
   ·have:=A3B (M7 ok.t t g).1;omega
   ·have:=(M7 ok.t t g).2.2;unfold U6;omega
   ·have:=ok.k;unfold U6;omega
  |var s h=>exact .mk _ _ _ _ _ (by simp[U6]) (by simp[U6]) A0Y (by have:=A3B (A6Y h);omega) (by simp) (by simp)
  |not k=>exact P5 (by simp[U6]) (by simp) fun q hq=>(hk q hq).2
  |and ks=>exact P5 (by simp[U6]) (by omega) fun q hq=>(hk q hq).2
  |or ks=>exact P5 (by simp[U6]) (by omega) fun q hq=>(hk q hq).2
theorem B7i{P:Program}{K:Env→Heap→Prop}{E:Env}{H:Heap}{d:List (Option Nat)}{ops:List Oper}(E0:Env)(H0:Heap)(hw:A0w E0 H0 E H)(h:Av.wpOps P d K ops E0 H0):A4q P d ops K E H (some .wk):=⟨E0,H0,hw,h⟩
theorem A7y{H0:Heap}{E j:Env}{x b sz:Nat}{es:List (List D)}{cs cs':List D}(m:Av.Sub j E)(hx:H0 x=none)(g:b≠x)(hl:cs.length=cs'.length)(o: ∀(i:Nat) d d',cs[i]? =some d→cs'[i]? =some d'→Fz x sz es d d'):
  A0w j (H0.set b (.box cs')) E ((H0.set x (.vec sz es)).set b (.box cs)):=by
 refine A1t (b:=x) (sz:=sz) (es:=es) (by rw[A4 _ g.symm];exact A3 _ _) (B1v m) (fun k o' ho=>?_);by_cases hk:k=b
 ·subst hk;rw[A3]at ho;cases ho;exact⟨g,_,A3 _ _,.box _ _ _ hl o⟩
 ·rw[A4 _ hk]at ho;have h:k≠x:=fun e=>by rw[e,hx]at ho;cases ho
  exact⟨h,o',by rw[A4 _ hk,A4 _ h];exact ho,.same _⟩
theorem A3t{G H:Heap}{b sz:Nat}{es:List (List D)}{ob:Option Nat}{rd:List D}(q:OutIn G sz es ob H)(d:G b=none)(hb:H b=some (.box rd))(X:Av.Obj):OutIn G sz es ob (H.set b X):=by
 refine⟨fun k o hk=>?_,?_,q.2.2⟩
 ·have:k≠b:=fun e=>by rw[e,d]at hk;cases hk
  rw[A4 _ this];exact q.1 k o hk
 ·cases ob with
  |none=>exact q.2.1
  |some c=>
   have hc:H c=some (.vec sz es):=q.2.1;have:c≠b:=fun e=>by rw[e,hb]at hc;cases hc
   show (H.set b X) c=_;rw[A4 _ this];exact hc
theorem B7j(a b:Fm):P2 (C1 a) 0 (C1 b)=C1 b:=by rw[M4 a];exact B9a _ _ _ _ _ _ _ _
theorem A7z{G d:Heap}{i y e sz:Nat}{ob:Option Nat}{es:List (List D)}{c rd:List D}{o:Av.Obj}(q:OutIn G sz es ob d)(g:d i=some (.box rd))(j:d y=none)(m:G e=none)(h:K1 (d.set y o) ob e=none):
  ((K1 (d.set y o) ob).set e (.vec sz (es++[c]))) i=some (.box rd)∧OutIn G sz (es++[c]) (some e) ((K1 (d.set y o) ob).set e (.vec sz (es++[c]))):=B7g q g j m h
def A43:Fm:=fxL (-1) true
theorem A19:A5J fxF=true∧A5J fxP=true∧A5J fxN=true∧A5J fxA=true∧A5J fxS=true∧A5J A4e=true∧A5J fxV=true∧A5J (A1A [fxF,normF fxP true])=true∧A5J (A1A [fxF,normF fxF true])=true∧A5J A43=true:=by decide+kernel
theorem B1A:J0 fxF≤1000∧J0 fxP≤1000∧J0 fxN≤1000∧J0 fxA≤1000:=by decide+kernel
theorem B7k:upS (D5 fxF++C7 fxF)= [nB,nX]:=by decide+kernel
theorem A6m:C7 fxF= [nB]∧nX≠nB∧G4 (B nX)=true:=by decide+kernel
theorem C64:nB∈J5 (C7 fxF)∧nX∉J5 (C7 fxF):=by
 rw[G3,G3,A6m.1];exact⟨by simp,by simp[A6m.2.1]⟩
theorem A89:meetL (D5.intsL [fxF,fxP]) (C7.boolsL [fxF,fxP])=false∧(upS (D5.intsL [fxF,fxP])).length+(upS (C7.boolsL [fxF,fxP])).length≤12∧meetL (D5.intsL [fxF,fxF]) (C7.boolsL [fxF,fxF])=false∧(upS (D5.intsL [fxF,fxF])).length+(upS (C7.boolsL [fxF,fxF])).length≤12:=by decide+kernel
end Go.Fo
namespace Go.Proofs.YtibphjonmikciaaGreatDoor
open Go Go.Av Go.Lexs Go.Lin Go.Fo
attribute [local irreducible] ACalls S9
theorem B7l{Q}(f:Fm)(d:FmFit f)(g:VOk f)(hv:E6 f=true)(b:Bool)(hs:X2 f []=some b)(H:Heap)(h:Q (.tuple [.bool b,.int .i64 0]) H):E3 31 [.agg (C1 f)] H Q:=by
 refine A9 [] A8 Tryz.func31 rfl ?_;simp only[go_sem,seval,Tryz.results31];have e:=fun(Q:D→Heap→Prop) (H:Heap)=>R4 (Q:=Q) f d g H;rw[hv]at e;repeat' (first|simp only[go_sem,seval]|intro i|with_reducible refine e _ _ ?_)
 refine A0a 3 ?_;refine A3r f (O1 hv) d [] (by simp) b hs _ ?_;repeat' simp only[go_sem,seval]
 exact D10 (A0 (by assumption)) h
theorem B97{Q}(f g:Fm)(p:FmFit f)(q:FmFit g)(z:VOk f)(A:VOk g)(r:E6 f=true)(u:E6 g=true)(hm:meetL (D5.intsL [f,g]) (C7.boolsL [f,g])=false)(hl:(upS (D5.intsL [f,g])).length+(upS (C7.boolsL [f,g])).length≤12)
  (b:Bool) (hs:X2 (.mk 5 0 nilL D8 [f,normF g true]) []=some b) (hn:I5 E4 (.mk 5 0 nilL D8 [f,normF g true])=true) (H:Heap) (h:Q (.tuple [.bool (!b),.int .i64 0]) H):E3 37 [.agg (C1 f),.agg (C1 g)] H Q:=by
 refine A9 [] A8 Tryz.func37 rfl ?_;simp only[go_sem,seval,Tryz.results37];intro d C i m;simp only[A6]at m;have o:d≠i:=fun e=>m.1 e.symm;have x:((H.set d (.box (C1 f))).set i (.box (C1 g))) d=some (.box (C1 f)):=by rw[A4 _ o,A3]
 have y:((H.set d (.box (C1 f))).set i (.box (C1 g))) i=some (.box (C1 g)):=A3 _ _;have j:H.Le ((H.set d (.box (C1 f))).set i (.box (C1 g))):=(A0 C).trans (A0 (by simp only[A6];exact m));generalize (H.set d (.box (C1 f))).set i (.box (C1 g))=Bs at x y j⊢;repeat' (first|simp only[go_sem,seval,x,y]|with_reducible refine C1d f g p q z A r u hm hl _ ?_|with_reducible refine A7v f g (O1 r) p (O1 u) q b hs hn _ ?_)
 exact D10 j h
theorem B98{Q}(f:Fm)(j:FmFit f)(q:VOk f)(m:E6 f=true)(hm:meetL (D5.intsL [f,f]) (C7.boolsL [f,f])=false)(hl:(upS (D5.intsL [f,f])).length+(upS (C7.boolsL [f,f])).length≤12)
  (hs:X2 (.mk 5 0 nilL D8 [f,normF f true]) []=some false) (hn:I5 E4 (.mk 5 0 nilL D8 [f,normF f true])=true) (H:Heap) (h:Q (.tuple [.bool true,.int .i64 0]) H):E3 38 [.agg (C1 f),.agg (C1 f)] H Q:=by
 refine A9 [] A8 Tryz.func38 rfl ?_;simp only[go_sem,seval,Tryz.results38];intro d y g o;simp only[A6]at o;have p:d≠g:=fun e=>o.1 e.symm;have r:((H.set d (.box (C1 f))).set g (.box (C1 f))) d=some (.box (C1 f)):=by rw[A4 _ p,A3]
 have u:((H.set d (.box (C1 f))).set g (.box (C1 f))) g=some (.box (C1 f)):=A3 _ _;have i:H.Le ((H.set d (.box (C1 f))).set g (.box (C1 f))):=(A0 y).trans (A0 (by simp only[A6];exact o));generalize (H.set d (.box (C1 f))).set g (.box (C1 f))=Bs at r u i⊢;have x:=fun(Q:D→Heap→Prop) (H:Heap)=>A7v (Q:=Q) f f (O1 m) j (O1 m) j false hs hn H;simp only[D1x]at x;repeat' (first|simp only[go_sem,seval,r,u]|with_reducible refine C1d f f j j q q m m hm hl _ ?_|with_reducible refine x _ _ ?_)
 exact D10 i h
theorem B1B{Q}(so g:Fm)(o:Nat)(H:Heap)(r:H o=some (.box (C1 so)))(h:Q (.agg (C1 (A1A [so,g]))) H):E3 74 [.agg (C1 g),.box o 0] H Q:=by
 refine A9 [] A8 Tryz.func74 rfl ?_;simp only[go_sem,seval,Tryz.results74];intro d u i m;simp only[A6]at m;have y:d≠i:=fun e=>m.1 e.symm;have z:o≠d:=fun e=>by rw[←e,r]at u;cases u
 have A:o≠i:=fun e=>by rw[←e,r]at m;cases m.2
 obtain⟨Z,C⟩: ∃Z:List D,Z= [.int .i64 0,.int .i64 0,.nilsl,.int .i64 0,.bool false,.str ⟨#[]⟩,.nilsl]:=⟨_,rfl⟩
 rw[←C];have G:((H.set d (.box (C1 g))).set i (.box Z)) d=some (.box (C1 g)):=by rw[A4 _ y,A3]
 have q:((H.set d (.box (C1 g))).set i (.box Z)) i=some (.box Z):=A3 _ _;have I:((H.set d (.box (C1 g))).set i (.box Z)) o=some (.box (C1 so)):=by rw[A4 _ A,A4 _ z];exact r
 have p:H.Le ((H.set d (.box (C1 g))).set i (.box Z)):=(A0 u).trans (A0 (by simp only[A6];exact m));generalize (H.set d (.box (C1 g))).set i (.box Z)=Bs at G q I p⊢;rw[C]at q;repeat' (first|simp only[go_sem,seval,G,q,I]|simp(disch:=first|omega|grind) only[B4]|(intro j;try simp only[A6]at j))
 rename_i x;have hx:=j;clear j;exact B2U (es:=[C1 so,C1 g]) [so,g] rfl rfl p m.2 q hx _ h
theorem B7m{Q}(so:Fm)(e:I5 E4 so=true)(g:FmFit so)(more:List LinV)(hm:more.length≤1000)(b:Bool)(hs:X2 so more=some b)(d:Nat)(H:Heap)(i:H d=some (.box (C1 so)))(h:Q (.bool b) H):E3 77 [.sl 3 (Rw E5 more),.box d 0] H Q:=by
 refine A9 [] A8 Tryz.func77 rfl ?_;simp only[go_sem,seval,Tryz.results77];repeat' (first|simp only[go_sem,seval,i]|with_reducible refine A3r so e g more hm b hs _ ?_)
 exact D13 h
abbrev vW:List D:=[.int .i64 3,.int .i64 0,.nilsl,.int .i64 0,.bool false,.str nB,.nilsl]
abbrev noW(d:D):List D:=[.int .i64 4,.int .i64 0,.nilsl,.int .i64 0,.bool false,.str ⟨#[]⟩,d]
theorem C30:NilR (.agg (noW (.sl 7 [vW]))) (.agg (C1 A4e)):=by
 rw[show C1 A4e= [.int .i64 4,.int .i64 0,.sl 2 [],.int .i64 0,.bool false,.str ⟨#[]⟩,.sl 7 (Rw C1 [fxV])]from M4 _];refine A8t (.nil 2) (.sl 7 _ _ rfl (fun i e e' h1 m=>?_) (fun i e e' j d d' h1 m g h=>?_))
 ·match i with
  |0=>cases h1;cases m;rfl
  |i+1=>cases h1
 ·match i with
  |0=>
   cases h1;cases m;rw[show C1 fxV= [.int .i64 3,.int .i64 0,.sl 2 [],.int .i64 0,.bool false,.str nB,.sl 7 []]from M4 _]at h
   match j with
   |0=>cases g;cases h;exact .same _
   |1=>cases g;cases h;exact .same _
   |2=>cases g;cases h;exact .nil 2
   |3=>cases g;cases h;exact .same _
   |4=>cases g;cases h;exact .same _
   |5=>cases g;cases h;exact .same _
   |6=>cases g;cases h;exact .nil 7
   |j+7=>cases g
  |i+1=>cases h1
theorem C1e{Q}(so:Fm)(e:Nat)(H:Heap)(j:H e=some (.box (C1 so)))(h:Q (.agg (C1 (A1A [so,A4e]))) H):E3 74 [.agg (noW (.sl 7 [vW])),.box e 0] H Q:=by
 refine O2 (args':=[.agg (C1 A4e),.box e 0]) rfl (fun i d d' h1 g=>?_) (B1B so A4e e H j h)
 match i with
 |0=>cases h1;cases g;exact C30
 |1=>cases h1;cases g;exact .same _
 |i+2=>cases h1
theorem K5:E6 fxF=true∧FmFit fxF∧VOk fxF∧I5 E4 fxF=true:=⟨Q7.1,(X4 _ A19.1).2,.inl (by have:=B1A.1;omega),(X4 _ A19.1).1⟩
def C9O:Nat→Fm
 |0=>fxF
 |1=>fxS
 |_=>A1A [fxS,A43]
set_option maxHeartbeats 4000000 in
theorem B7n{Q}(H:Heap)(h:Q (.tuple [.sl 2 (Rw vlC fxVals),.int .i64 0]) H):E3 32 [.agg (C1 fxF)] H Q:=by
 refine A9 [(15,.wk)] A8 Tryz.func32 rfl ?_;simp only[go_sem,seval,Tryz.results32];obtain⟨hv,fa,vo,b4⟩:=K5;have vc:=fun(Q:D→Heap→Prop) (H:Heap)=>R4 (Q:=Q) fxF fa vo H;rw[hv]at vc;intro b1 h1;have e1:(H.set b1 (.box (C1 fxF))) b1=some (.box (C1 fxF)):=A3 _ _;have U:H.Le (H.set b1 (.box (C1 fxF))):=A0 h1;have W:=A4f.1;have a4:=B93;have a5:=A4f.2.2.2.2;have a6:=C64;have V:=B7k;have u:=A19;generalize hF:fxF=F at e1 U vc hv fa vo b4 W a6 V⊢;generalize H.set b1 (.box (C1 F))=Bs at e1 U⊢;repeat' (first|simp only[go_sem,seval,e1]|with_reducible refine vc _ _ ?_)
 refine A0a 3 ?_;refine A3r F b4 fa [] (by simp) true W _ ?_;repeat' (first|simp only[go_sem,seval,e1]|(intro g;try simp only[A6]at g))
 rename_i x;have hx:=g;clear g;refine A3q hx F fa rfl ?_;repeat' (first|simp only[go_sem,seval,e1]|(intro g;try simp only[A6]at g))
 rename_i m;have h7:=g;clear g;have d0:b1≠m:=fun e=>by rw[←e,e1]at h7;cases h7
 have c7:(Bs.set m (.box (C1 F))) m=some (.box (C1 F)):=A3 _ _;have Y:H.Le (Bs.set m (.box (C1 F))):=U.trans (A0 h7);have b6:H m=none:=U.none h7;generalize Bs.set m (.box (C1 F))=Cs at c7 Y⊢;refine B7a _ _ (A1V _) _ fun K hK a9=>?_;have d2:K.length≤2:=by
  have:K.length= [nB,nX].length:=((List.perm_ext_iff_of_nodup hK (by decide+kernel)).2 fun y=>by rw[a9,G3,G3,←D0y,←Q0,V]).length_eq;have d3: [nB,nX].length=2:=rfl;omega
 repeat' simp only[go_sem,seval]
 refine A82 _ _ fun bk b0=>?_;repeat' simp only[go_sem,seval]
 refine A83 bk tt K (by omega) (fun s hs=>by
  have:s∈[nB,nX]:=by rw[←V,Q0,D0y,←G3,←G3 (C7 F),←a9];exact hs
  simp only[D00,D01,or_false]at this;rcases this with rfl|rfl<;>decide) _ (A3 _ _) fun v c1 hm=>?_
 have ev:v= [nB,nX]:=by
  rw[←V];exact A6E c1 (A8s _) fun s=>by rw[hm,a9,G3,G3,Q0,D0y]
 rw[ev];have c2:m≠bk:=fun e=>by rw[←e,c7]at b0;cases b0
 have I:(Cs.set bk (.box [.fm (D1 tt K)])) m=some (.box (C1 F)):=by rw[A4 _ c2];exact c7
 have a0:H.Le (Cs.set bk (.box [.fm (D1 tt K)])):=Y.trans (A0 b0);generalize Cs.set bk (.box [.fm (D1 tt K)])=Ds at I a0⊢;have hlen:(Rw K2 [nB,nX]).length=2:=rfl;repeat' simp only[go_sem,seval,hlen]
 refine C9 [5,7,8,31,32] (fun(p:Nat×Option Nat×Heap)=>[(33,.int .i64 p.1),(6,J1 2 p.1 p.2.1)]) (fun(p:Nat×Option Nat×Heap)=>p.2.2) (fun(p:Nat×Option Nat×Heap)=>p.1≤2∧p.2.2 m=some (.box (C1 (C9O p.1)))∧OutIn H 2 (Rw vlC (fxVals.take p.1)) p.2.1 p.2.2) (fun(p:Nat×Option Nat×Heap)=>2-p.1) ((0,none,Ds)) (⟨D0t _,by show Ds m=_;rw[I,←hF];rfl,a0,rfl,fun _ e=>(by cases e)⟩) (by(try simp only[go_sem,seval])<;>(try simp(disch:=omega) [A5])) (by first|exact D1z _|exact A0 (by assumption)|exact B3 (by assumption)|simp only[Heap.Le,Heap.set,Heap.del]at* <;>grind) ?_;rintro Ec rfl ⟨k,ob,Hp⟩ ⟨hk,A,J⟩;simp only at hk A J
 match k,hk,A,J with
 |0,hk,A,J=>
  have r0:(Rw K2 [nB,nX]).getD 0 []= [.str nB]:=rfl;repeat' (first|with_reducible apply D0Y|simp only[go_sem,seval,r0,A,A2W,if_pos a6.1]|(intro g;try simp only[A6]at g)|omega)
  rename_i j o x hx q;have r:=g;clear g;have c7: ∀X:Av.Obj,((Hp.set j (.box [.str nB,.int .i64 0])).set q X) m=some (.box (C1 fxF)):=fun X=>by
   rw[A4 _ (fun e=>by rw[←e,A]at r;cases r.2.2),A4 _ (fun e=>by rw[←e,A]at o;cases o)];exact A
  have c3: ∀X:Av.Obj,((Hp.set j (.box [.str nB,.int .i64 0])).set q X) j=some (.box [.str nB,.int .i64 0]):=fun X=>by
   rw[A4 _ (fun e=>by rw[e]at r;exact r.2.1 rfl)];exact A3 _ _
  have c4:=(J.set o (.box [.str nB,.int .i64 0])).set (b:=q) (A6.2 ⟨r.2.1,r.2.2⟩);refine B7i [(5,.fm (D1 tt (J5 (C7 F)))),(7,.box m 0),(8,.fn (.func 74) [] [.box m 0]),(31,.sl 1 (Rw K2 [nB,nX])),(32,.int .i64 2),(33,.int .i64 0),(6,J1 2 0 ob),(10,.str nB),(11,.box j 0),(12,.box q 0)] ((Hp.set j (.box [.str nB,.int .i64 0])).set q (.box (noW (.sl 7 [vW])))) (A7y (cs:=noW (.vec x 7 0 1)) (by(try simp only[go_sem,seval])<;>(try simp(disch:=omega) [A5])) (A6.2 hx) r.1 rfl (fun i d d' h1 h2=>?_)) ?_
  ·match i with
   |0=>cases h1;cases h2;exact .same _
   |1=>cases h1;cases h2;exact .same _
   |2=>cases h1;cases h2;exact .same _
   |3=>cases h1;cases h2;exact .same _
   |4=>cases h1;cases h2;exact .same _
   |5=>cases h1;cases h2;exact .same _
   |6=>cases h1;cases h2;exact .all
   |i+7=>cases h1
  have I:=c7 (.box (noW (.sl 7 [vW])));have C:=c3 (.box (noW (.sl 7 [vW])));have d12:((Hp.set j (.box [.str nB,.int .i64 0])).set q (.box (noW (.sl 7 [vW])))) q=some (.box (noW (.sl 7 [vW]))):=A3 _ _;have L:=c4 (.box (noW (.sl 7 [vW])));have M:m≠j:=fun e=>by rw[←e,A]at o;cases o
  generalize (Hp.set j (.box [.str nB,.int .i64 0])).set q (.box (noW (.sl 7 [vW])))=T at I C d12 L⊢;repeat' (first|simp only[go_sem,seval,d12]|with_reducible refine C1e fxF m T I ?_)
  refine A0a 3 ?_;refine A3r fxS (X4 _ u.2.2.2.2.1).1 (X4 _ u.2.2.2.2.1).2 [] (by simp) true a5 _ ?_;repeat' (first|simp only[go_sem,seval,I,C,d12,B7j]|simp(disch:=first|omega|grind) only[B4]|(intro g;try simp only[A6]at g)|with_reducible refine C1e fxF m T I ?_)
  rename_i y;have hy:(T.set m (.box (C1 (A1A [fxF,A4e])))) y=none:=A6.2 g;clear g;have f7:(T.set m (.box (C1 (A1A [fxF,A4e])))) m=some (.box (C1 (A1A [fxF,A4e]))):=A3 _ _;have G:=A3t L b6 I (.box (C1 (A1A [fxF,A4e])));generalize T.set m (.box (C1 (A1A [fxF,A4e])))=Gt at f7 hy G⊢;refine B27 (G.set hy _) (by simp) rfl (by simp) (by simp) fun b' b2 b3 b8=>?_;obtain⟨g7,O⟩:=A7z (c:=[.str nB,.int .i64 0]) G f7 hy b2 b3;repeat' (first|simp only[go_sem,seval]|simp(disch:=omega) only[A5,C3])
  exact C4 (1,some b',_) ⟨by simp,g7,O⟩ (by simp) (by(try simp only[go_sem,seval])<;>(try simp(disch:=omega) [A5])) (D1z _)
 |1,hk,A,J=>
  have r1:(Rw K2 [nB,nX]).getD 1 []= [.str nX]:=rfl;repeat' (first|with_reducible apply D0Y|simp only[go_sem,seval,r1,A,A2W,if_neg a6.2]|(intro g;try simp only[A6]at g)|omega)
  rename_i j;have o:=g;clear g;have M:m≠j:=fun e=>by rw[←e,A]at o;cases o
  have I:(Hp.set j (.box [.str nX,.int .i64 0])) m=some (.box (C1 fxS)):=by rw[A4 _ M];exact A
  have C:(Hp.set j (.box [.str nX,.int .i64 0])) j=some (.box [.str nX,.int .i64 0]):=A3 _ _;have L:=J.set o (.box [.str nX,.int .i64 0]);generalize Hp.set j (.box [.str nX,.int .i64 0])=T at I C L⊢;refine B4a (fun more=>X2 fxS more) nX A6m.2.2 77 [.box m 0] T (fun more bb c5 c9 d4 H' Q c6 hq=>B7m fxS (X4 _ u.2.2.2.2.1).1 (X4 _ u.2.2.2.2.1).2 more (by omega) bb c5 m H' (c6 _ _ I) hq) 1 a4 ?_;repeat' (first|simp only[go_sem,seval,C]|simp(disch:=omega) only[A5,C3]|simp(disch:=first|omega|grind) only[B4]|(intro g;try simp only[A6]at g))
  rename_i z;have hz:=g;clear g;have b9:H j=none:=J.1.none o;have f7:(T.set j (.box [.str nX,.int .i64 1])) m=some (.box (C1 fxS)):=by rw[A4 _ M];exact I
  have c0:(T.set j (.box [.str nX,.int .i64 1])) j=some (.box [.str nX,.int .i64 1]):=A3 _ _;have G:=A3t L b9 C (.box [.str nX,.int .i64 1]);refine A5K (A3 _ _) rfl ?_;rw[E7 (A6.2 hz)];generalize T.set j (.box [.str nX,.int .i64 1])=Gt at f7 c0 G⊢;refine A4c ⟨[⟨nX,1⟩],-1,true⟩ _ ?_;repeat' simp only[go_sem,seval]
  refine B1B fxS A43 m Gt f7 ?_;repeat' (first|simp only[go_sem,seval,f7,c0,B7j]|simp(disch:=first|omega|grind) only[B4]|(intro g;try simp only[A6]at g))
  rename_i y;have hy:(Gt.set m (.box (C1 (A1A [fxS,A43])))) y=none:=A6.2 g;clear g;have g7:(Gt.set m (.box (C1 (A1A [fxS,A43])))) m=some (.box (C1 (A1A [fxS,A43]))):=A3 _ _;have O:=A3t G b6 f7 (.box (C1 (A1A [fxS,A43])));generalize Gt.set m (.box (C1 (A1A [fxS,A43])))=Gu at g7 hy O⊢;refine B27 (O.set hy _) (by simp) rfl (by simp) (by simp) fun b' b2 b3 b8=>?_;obtain⟨k7,c8⟩:=A7z (c:=[.str nX,.int .i64 1]) O g7 hy b2 b3;repeat' (first|simp only[go_sem,seval]|simp(disch:=omega) only[A5,C3])
  exact C4 (2,some b',_) ⟨by simp,k7,c8⟩ (by simp) (by(try simp only[go_sem,seval])<;>(try simp(disch:=omega) [A5])) (D1z _)
 |2,hk,A,J=>
  repeat' (first|with_reducible apply D0Y|simp only[go_sem,seval]|simp(disch:=omega) only[A5,C3]|(intro g;try simp only[A6]at g)|omega)
  have e2:fxVals.take 2=fxVals:=rfl;rw[e2]at J;refine A6t (n:=2) rfl J.2.1 (D10 J.le h)
 |k+3,hk,_,_=>omega
end Go.Proofs.YtibphjonmikciaaGreatDoor
namespace Go.Fo
open Go Go.Av Go.Lexs Go.Lin
def B7o(f:Fm):Bool:=(decide (f.op=1)||decide (f.n=0))&&(decide (f.op=3)||decide (f.s.size=0))&&(decide (f.op=2)||lin0 f.l)
def B3l(f:Fm):Bool:=
 if f.op=1 then decide ((f.ks.length:Int)=0)&&(decide (f.n=0)||decide (f.n=1))
 else if f.op=2 then(f.l.t.all fun t=>plainB t.v)&&(decide ((f.ks.length:Int)=0)&&validL f.l)
 else if f.op=3 then decide ((f.ks.length:Int)=0)&&plainB f.s
 else if f.op=4 then decide ((f.ks.length:Int)=1)
 else decide (f.op=5)||decide (f.op=6)
theorem B99(f:Fm):E4 f=(B7o f&&B3l f):=by
 unfold E4 B7o B3l;rw[B3d,B3e];by_cases o1:f.op=1
 ·simp only[o1,if_true,decide_true,Bool.true_or,Bool.true_and,show¬((1:Int)=3)by decide,show¬((1:Int)=2)by decide,decide_false,Bool.false_or];cases decide (f.n=0)<;>cases decide (f.n=1)<;>cases decide (f.s.size=0)<;>cases lin0 f.l<;>cases decide ((f.ks.length:Int)=0)<;>rfl
 by_cases o2:f.op=2
 ·simp only[o2,if_true,decide_true,Bool.true_or,Bool.and_true,show¬((2:Int)=3)by decide,show¬((2:Int)=1)by decide,decide_false,Bool.false_or,if_false];cases decide (f.n=0)<;>cases decide (f.s.size=0)<;>cases decide ((f.ks.length:Int)=0)<;>cases validL f.l<;>cases (f.l.t.all fun t=>plainB t.v)<;>rfl
 by_cases o3:f.op=3
 ·simp only[o3,if_true,decide_true,Bool.true_or,Bool.and_true,show¬((3:Int)=2)by decide,show¬((3:Int)=1)by decide,decide_false,Bool.false_or,if_false];cases decide (f.n=0)<;>cases lin0 f.l<;>cases decide ((f.ks.length:Int)=0)<;>cases plainB f.s<;>rfl
 simp only[o1,o2,o3,if_false,decide_false,Bool.false_or];by_cases d:f.op=4
 ·simp only[d,if_true]
 ·simp only[d,if_false];by_cases e:f.op=5
  ·simp[e]
  ·by_cases g:f.op=6
   ·simp[g]
   ·simp[e,g]
def Z5(f:Fm)(deep:Int):Bool:=decide ((N6 f:Int)≤deep)&&I5 E4 f
theorem B4x(f:Fm)(d:Int):Z5 f d=(decide (1≤d)&&B7o f&&f.ks.all (fun k=>Z5 k (d-1))&&B3l f):=by
 rw[Bool.eq_iff_iff];unfold Z5;rw[A2Y,B99];simp only[D0l,D0u,D09];constructor
 ·rintro⟨h1,⟨g,e⟩,h⟩;have:=(A3j f d.toNat).1 (by omega);exact⟨⟨⟨by omega,g⟩,fun k hk=>⟨by have:=this.2 k hk;omega,h k hk⟩⟩,e⟩
 ·rintro⟨⟨⟨h1,g⟩,e⟩,h⟩;have:=(A3j f d.toNat).2 ⟨by omega,fun k hk=>by have:=(e k hk).1;omega⟩;exact⟨by omega,⟨g,h⟩,fun k hk=>(e k hk).2⟩
end Go.Fo
namespace Go.Proofs.YtibphjonmikciaaGreatDoor
open Go Go.Av Go.Lexs Go.Lin Go.Fo
attribute [local irreducible] ACalls S9
theorem B7p{Q}(a:LinV)(r:V7 a)(H:Heap)(h:Q (.bool (lin0 a)) H):E3 60 [.agg (E5 a),.agg [.nilsl,.int .i64 0,.bool false]] H Q:=by
 refine A9 [(6,.par)] A8 Tryz.func60 rfl ?_;simp only[go_sem,seval,Tryz.results60];intro g u j p;simp only[A6]at p;have e2:((H.set g (.box (E5 a))).set j (.box [.nilsl,.int .i64 0,.bool false])) g=some (.box (E5 a)):=by rw[A4 _ p.1.symm,A3]
 have e3:((H.set g (.box (E5 a))).set j (.box [.nilsl,.int .i64 0,.bool false])) j=some (.box [.nilsl,.int .i64 0,.bool false]):=A3 _ _;have d:H.Le ((H.set g (.box (E5 a))).set j (.box [.nilsl,.int .i64 0,.bool false])):=(A0 u).trans (A0 (by simp only[A6];exact p));generalize (H.set g (.box (E5 a))).set j (.box [.nilsl,.int .i64 0,.bool false])=Bs at e2 e3 d⊢;have hlen:=r.len;have d1:decide (a.t= [])=decide ((a.t.length:Int)=0):=D1B.2 (by rw[←List.length_eq_zero_iff];omega);unfold lin0 at h;rw[d1]at h;by_cases o:a.k=0
 ·by_cases m:a.e=true
  ·repeat' simp only[go_sem,seval,e2,e3,o,m]
   all_goals (refine D10 d ?_;simp_all)
  ·have m:a.e=false:=by simpa using m
   by_cases t0:(a.t.length:Int)=0
   ·repeat' simp only[go_sem,seval,e2,e3,o,m,t0]
    refine C9 [2,3,29] (fun(i:Nat)=>[(30,.int .i64 i)]) (fun(i:Nat)=>Bs) (fun(i:Nat)=>i=0) (fun(i:Nat)=>0-i) (0) (rfl) (by(try simp only[go_sem,seval])<;>(try simp(disch:=omega) [A5])) (by first|exact D1z _|exact A0 (by assumption)|exact B3 (by assumption)|simp only[Heap.Le,Heap.set,Heap.del]at* <;>grind) ?_;rintro x rfl i y;have q:decide ((i:Int)<0)=false:=D0b (by omega);repeat' simp only[go_sem,seval,q]
    refine D10 d ?_;simp_all
   ·repeat' simp only[go_sem,seval,e2,e3,o,m,t0]
    all_goals (refine D10 d ?_;simp_all)
 ·repeat' simp only[go_sem,seval,e2,e3,o]
  all_goals (refine D10 d ?_;simp_all)
theorem C0A(n:Nat): ∀{Q} (f:Fm) (hn:SizeOf.sizeOf f≤n) (x:FmFit f) (d:Int) (h0:0≤d) (h1:d≤60) (H:Heap) (h:Q (.bool (Z5 f d)) H),E3 57 [.agg (C1 f),.int .i64 d] H Q:=by
  induction n with
  |zero=>intro Q f hn;cases f;simp at hn
  |succ n ih=>
  intro Q f hn x d h0 h1 H h;refine A9 [(3,.wk)] A8 Tryz.func57 rfl ?_;simp only[go_sem,seval,Tryz.results57];have a0:=x.kl;have a4:=x.lin.len;rw[B4x]at h;intro y g2;have e2:(H.set y (.box (C1 f))) y=some (.box (C1 f)):=A3 _ _;have e:H.Le (H.set y (.box (C1 f))):=A0 g2;generalize H.set y (.box (C1 f))=Bs at e2 e⊢;apply Y8 (C:=1≤d∧B7o f=true)
  · intro A
    have d1:decide (f.s.size=0)=decide (B f.s= []):=by
      rw[←T9];exact D1B.2 List.length_eq_zero_iff
    unfold B7o at A h;rw[d1]at A h;by_cases G:d<1
    · repeat' (first|with_reducible apply D0Y|simp only[go_sem,seval,e2,G])
      all_goals (refine D10 e ?_;have: ¬1≤d:=by omega
                 simpa [this]using h)
    · have I:1≤d:=by omega
      have T:=fun(Q:D→Heap→Prop)=>B7p (Q:=Q) f.l x.lin Bs;generalize lin0 f.l=l0 at A h T;by_cases o1:f.op=1
      · repeat' (first|with_reducible apply D0Y|simp only[go_sem,seval,e2,G,o1]|intro m|with_reducible refine T _ ?_)
        all_goals first
          |exact P9 [(1,.int .i64 d),(2,.box y 0)] Bs (by simp only[go_sem,seval]) (D1z _) (A (by simp_all))
          |(refine D10 e ?_;simp_all;done)
      · by_cases o2:f.op=2
        · repeat' (first|with_reducible apply D0Y|simp only[go_sem,seval,e2,G,o2]|intro m)
          all_goals first
            |exact P9 [(1,.int .i64 d),(2,.box y 0)] Bs (by simp only[go_sem,seval]) (D1z _) (A (by simp_all))
            |(refine D10 e ?_;simp_all;done)
        · by_cases o3:f.op=3
          · repeat' (first|with_reducible apply D0Y|simp only[go_sem,seval,e2,G,o3]|intro m|with_reducible refine T _ ?_)
            all_goals first
              |exact P9 [(1,.int .i64 d),(2,.box y 0)] Bs (by simp only[go_sem,seval]) (D1z _) (A (by simp_all))
              |(refine D10 e ?_;simp_all;done)
          · repeat' (first|with_reducible apply D0Y|simp only[go_sem,seval,e2,G,o1,o2,o3]|intro m|with_reducible refine T _ ?_)
            all_goals first
              |exact P9 [(1,.int .i64 d),(2,.box y 0)] Bs (by simp only[go_sem,seval]) (D1z _) (A (by simp_all))
              |(refine D10 e ?_;simp_all;done)
  rintro⟨I,J⟩;rw[J,D0a I]at h;simp only[Bool.true_and]at h;have Y:IntKind.i64.wrap (d-1)=d-1:=A5 (by omega) (by omega);repeat' simp only[go_sem,seval,e2]
  refine C9 [1,2,44,45] (fun(i:Nat)=>[(46,.int .i64 i)]) (fun(i:Nat)=>Bs) (fun(i:Nat)=>i≤f.ks.length∧∀(j:Nat) (L:j<f.ks.length),j<i→Z5 f.ks[j] (d-1)=true) (fun(i:Nat)=>f.ks.length-i) (0) (⟨D0t _,fun _ _ h=>absurd h (D1o _)⟩) (by(try simp only[go_sem,seval])<;>(try simp(disch:=omega) [A5])) (by first|exact D1z _|exact A0 (by assumption)|exact B3 (by assumption)|simp only[Heap.Le,Heap.set,Heap.del]at* <;>grind) ?_;rintro Ec rfl i ⟨hi,z⟩;by_cases u:i<f.ks.length
  · have o:decide ((i:Int)<f.ks.length)=true:=D0a (by omega)
    have M:(i:Int)<f.ks.length:=by omega
    have hm:=D0m u;have U:=fun(Q:D→Heap→Prop) (H:Heap)=>ih (Q:=Q) f.ks[i] (by have:=W8 hm;omega) (x.kid hm) (d-1) (by omega) (by omega) H;cases hs:Z5 f.ks[i] (d-1)with
    |false=>
      rw[hs]at U;have X:(f.ks.all fun k=>Z5 k (d-1))=false:=List.all_eq_false.2 ⟨_,hm,by rw[hs];simp⟩;rw[X]at h;simp only[Bool.false_and]at h;repeat' (first|with_reducible apply D0Y|simp only[go_sem,seval,o,M,B2 _ _ u,C2 _ _ u,Y]|intro m|with_reducible refine U _ _ ?_|omega)
      exact D10 (by simp only[D9,D2,D3]at* <;>grind) h
    |true=>
      rw[hs]at U;repeat' (first|with_reducible apply D0Y|simp only[go_sem,seval,o,M,B2 _ _ u,C2 _ _ u,Y]|simp(disch:=omega) only[A5,B2,C3]|intro m|with_reducible refine U _ _ ?_|omega)
      refine C4 (i+1) ⟨by omega,fun j L a5=>?_⟩ (by omega) (by(try simp only[go_sem,seval])<;>(try simp(disch:=omega) [A5])) (by simp only[D9,D2,D3]at* <;>grind);rcases Nat.lt_or_ge j i with g|g
      · exact z j L g
      · have:j=i:=by omega
        subst this;exact hs
  · have o:decide ((i:Int)<f.ks.length)=false:=D0b (by omega)
    have X:(f.ks.all fun k=>Z5 k (d-1))=true:=D09.2 fun k hk=>by
      obtain⟨j,L,rfl⟩:=List.getElem_of_mem hk;exact z j L (by omega)
    rw[X]at h;simp only[Bool.true_and]at h;unfold B3l at h;by_cases o1:f.op=1
    · rw[if_pos o1]at h
      repeat' (first|with_reducible apply D0Y|simp only[go_sem,seval,o,e2,o1]|intro m)
      all_goals (refine D10 e ?_;simp_all)
    rw[if_neg o1]at h;by_cases o2:f.op=2
    · rw[if_pos o2]at h
      repeat' simp only[go_sem,seval,o,e2,o2]
      refine C9 [2,78,79] (fun(j:Nat)=>[(80,.int .i64 j)]) (fun(j:Nat)=>Bs) (fun(j:Nat)=>j≤f.l.t.length∧(f.l.t.all fun t=>plainB t.v)=((f.l.t.drop j).all fun t=>plainB t.v)) (fun(j:Nat)=>f.l.t.length-j) (0) (⟨D0t _,rfl⟩) (by(try simp only[go_sem,seval])<;>(try simp(disch:=omega) [A5])) (by first|exact D1z _|exact A0 (by assumption)|exact B3 (by assumption)|simp only[Heap.Le,Heap.set,Heap.del]at* <;>grind) ?_;rintro a6 rfl j ⟨L,p⟩;by_cases r:j<f.l.t.length
      · have q:decide ((j:Int)<f.l.t.length)=true:=D0a (by omega)
        have O:(j:Int)<f.l.t.length:=by omega
        have hst:=x.lin.str _ (D0m r);rw[D03 r,D1b]at p;have V:=fun(Q:D→Heap→Prop) (H:Heap)=>B0v (Q:=Q) f.l.t[j].v hst H;cases hp:plainB f.l.t[j].v with
        |false=>
          rw[hp]at V p;rw[p]at h;simp only[Bool.false_and]at h;repeat' (first|with_reducible apply D0Y|simp only[go_sem,seval,q,O,B2 _ _ r,C2 _ _ r]|intro m|with_reducible refine V _ _ ?_|omega)
          exact D10 (by simp only[D9,D2,D3]at* <;>grind) h
        |true=>
          rw[hp]at V p;repeat' (first|with_reducible apply D0Y|simp only[go_sem,seval,q,O,B2 _ _ r,C2 _ _ r]|simp(disch:=omega) only[A5,B2,C3]|intro m|with_reducible refine V _ _ ?_|omega)
          exact C4 (j+1) ⟨by omega,by simpa using p⟩ (by omega) (by(try simp only[go_sem,seval])<;>(try simp(disch:=omega) [A5])) (by simp only[D9,D2,D3]at* <;>grind)
      · have q:decide ((j:Int)<f.l.t.length)=false:=D0b (by omega)
        rw[List.drop_eq_nil_of_le (by omega),List.all_nil]at p;rw[p]at h;simp only[Bool.true_and]at h;repeat' (first|with_reducible apply D0Y|simp only[go_sem,seval,q,e2]|intro m|with_reducible refine B6W f.l x.lin _ ?_)
        all_goals (refine D10 e ?_;simp_all)
    rw[if_neg o2]at h;by_cases o3:f.op=3
    · rw[if_pos o3]at h
      repeat' (first|with_reducible apply D0Y|simp only[go_sem,seval,o,e2,o3]|intro m|with_reducible refine B0v f.s x.txt _ ?_)
      all_goals (refine D10 e ?_;simp_all)
    rw[if_neg o3]at h;by_cases W:f.op=4
    · rw[if_pos W]at h
      repeat' simp only[go_sem,seval,o,e2,W]
      all_goals (refine D10 e ?_;simp_all)
    rw[if_neg W]at h;repeat' (first|with_reducible apply D0Y|simp only[go_sem,seval,o,e2,o1,o2,o3,W]|intro m)
    all_goals (refine D10 e ?_;simp_all)
theorem C0B{Q}(f:Fm)(d:FmFit f)(H:Heap)(h:Q (.bool (Z5 f 60)) H):E3 57 [.agg (C1 f),.int .i64 60] H Q:=C0A _ f (D0s _) d 60 (by decide) (by decide) H h
theorem B3m(n:Nat): ∀{Q} (f:Fm) (hn:SizeOf.sizeOf f≤n) (r:FmFit f) (hw:J0 f≤1000000) (H:Heap) (h:Q (.int .i64 (F3 f)) H),E3 58 [.agg (C1 f)] H Q:=by
 induction n with
 |zero=>intro Q f hn;cases f;simp at hn
 |succ n y=>
 intro Q f hn r hw H h;refine A9 [] A8 Tryz.func58 rfl ?_;simp only[go_sem,seval,Tryz.results58];have z:=r.kl;have A:=K4 f;intro q C;have e1:(H.set q (.box (C1 f))) q=some (.box (C1 f)):=A3 _ _;have o:H.Le (H.set q (.box (C1 f))):=A0 C;generalize H.set q (.box (C1 f))=Bs at e1 o⊢;repeat' (first|with_reducible apply D0Y|simp only[go_sem,seval,e1]|simp(disch:=omega) only[A5,B2,C3,A2Z]|intro u|omega)
 refine C9 [7,8] (fun(p:Nat×Int)=>[(9,.int .i64 p.1),(3,.int .i64 p.2)]) (fun(p:Nat×Int)=>Bs) (fun(p:Nat×Int)=>p.1≤f.ks.length∧p.2=1+F3.nodesL (f.ks.take p.1)) (fun(p:Nat×Int)=>f.ks.length-p.1) ((0,1)) (⟨D0t _,rfl⟩) (by(try simp only[go_sem,seval])<;>(try simp(disch:=omega) [A5])) (by first|exact D1z _|exact A0 (by assumption)|exact B3 (by assumption)|simp only[Heap.Le,Heap.set,Heap.del]at* <;>grind) ?_;rintro L rfl ⟨i,m⟩ ⟨G,g⟩;simp only at G g;by_cases d:i<f.ks.length
 ·have j:decide ((i:Int)<f.ks.length)=true:=D0a (by omega);have x:(i:Int)<f.ks.length:=by omega
  have hm:=D0m d;have w0:=B3Q hm;have hs:=A2Z f.ks i d;have hb:=B4f (f.ks.take i);have I:J0.wtL (f.ks.take i)≤J0.wtL f.ks:=by
   conv=>rhs;rw[←D1J i f.ks,A5V]
   omega
  have J:=A2X f.ks[i];repeat' (first|with_reducible apply D0Y|simp only[go_sem,seval,j,x,B2 _ _ d,C2 _ _ d]|simp(disch:=omega) only[A5,B2,C3,A2Z]|intro u|with_reducible refine y f.ks[i] (by have:=W8 hm;omega) (r.kid hm) (by omega) _ ?_|omega)
  exact C4 (i+1,m+F3 f.ks[i]) ⟨by simp only[];omega,by simp only[];rw[hs];push_cast;omega⟩ (by simp only[];omega) (by(try simp only[go_sem,seval])<;>(try simp(disch:=omega) [A5])) (by simp only[D9,D2,D3]at* <;>grind)
 ·have j:decide ((i:Int)<f.ks.length)=false:=D0b (by omega);have e:F3 f=1+F3.nodesL f.ks:=B4e f;rw[D0n (by omega)]at g;have e2:m=(F3 f:Int):=by rw[g,e];push_cast;rfl
  rw[←e2]at h;repeat' simp only[go_sem,seval,j]
  exact D10 o h
theorem B7q(n:Nat): ∀{Q} (f:Fm) (hn:SizeOf.sizeOf f≤n) (A:FmFit f) (a b:List ByteArray) (hw:J0 f+a.length+b.length≤2000000) (H:Heap) (h:Q (.tuple [nsD ((D5 f).foldl G8 a),nsD ((C7 f).foldl G8 b)]) H),E3 48 [.agg (C1 f),nsD a,nsD b] H Q:=by
 induction n with
 |zero=>intro Q f hn;cases f;simp at hn
 |succ n O=>
 intro Q f hn A a b hw H h;refine A9 [(8,.wk)] A8 Tryz.func48 rfl ?_;simp only[go_sem,seval,Tryz.results48];have T:=A.kl;have U:=A.lin.len;have V:=K4 f;rw[A6S,A4Y,D1Q,D1Q]at h;intro o W;have e3:(H.set o (.box (C1 f))) o=some (.box (C1 f)):=A3 _ _;have q:H.Le (H.set o (.box (C1 f))):=A0 W;generalize H.set o (.box (C1 f))=Bs at e3 q⊢;repeat' (first|with_reducible apply D0Y|simp only[go_sem,seval,e3]|simp(disch:=omega) only[A5,B2,A4X,C3,A0H,Z3]|intro u|omega)
 refine C9 [2,3,14,15] (fun(p:Nat×List ByteArray)=>[(16,.int .i64 p.1),(1,nsD p.2)]) (fun(p:Nat×List ByteArray)=>Bs) (fun(p:Nat×List ByteArray)=>p.1≤f.l.t.length∧p.2=((f.l.t.take p.1).map (·.v)).foldl G8 a) (fun(p:Nat×List ByteArray)=>f.l.t.length-p.1) ((0,a)) (⟨D0t _,rfl⟩) (by(try simp only[go_sem,seval])<;>(try simp(disch:=omega) [A5])) (by first|exact D1z _|exact A0 (by assumption)|exact B3 (by assumption)|simp only[Heap.Le,Heap.set,Heap.del]at* <;>grind) ?_;rintro Ec rfl ⟨i,r⟩ ⟨X,hr⟩;simp only at X hr;by_cases m:i<f.l.t.length
 ·have g:decide ((i:Int)<f.l.t.length)=true:=D0a (by omega);have G:(i:Int)<f.l.t.length:=by omega
  have hb:=R3 ((f.l.t.take i).map (·.v)) a;rw[←hr,D1H,D1G]at hb;repeat' (first|with_reducible apply D0Y|simp only[go_sem,seval,g,G,B2 _ _ m,C2 _ _ m]|simp(disch:=omega) only[A5,B2,A4X,C3,A0H,Z3]|intro u|with_reducible refine B3P r (by omega) _ _ ?_|omega)
  exact C4 (i+1,G8 r f.l.t[i].v) ⟨by simp only[];omega,by simp only[];rw[D0r m,D1Y,D1Q,←hr];rfl⟩ (by simp only[];omega) (by(try simp only[go_sem,seval])<;>(try simp(disch:=omega) [A5])) (by simp only[D9,D2,D3]at* <;>grind)
 ·have g:decide ((i:Int)<f.l.t.length)=false:=D0b (by omega);rw[D0n (by omega)]at hr;have hb:=R3 (f.l.t.map (·.v)) a;rw[←hr,D1H]at hb;rw[←hr]at h;obtain⟨c,hc⟩: ∃c,c=(if f.op=3 then [f.s]else []).foldl G8 b:=⟨_,rfl⟩
  rw[←hc]at h;have Y:c.length≤b.length+1:=by
   rw[hc];split
   ·exact A7l _ _
   ·simp
  apply Y8 (C:=True)
  ·intro M;by_cases o3:f.op=3
   ·rw[if_pos o3]at hc;have hc:c=G8 b f.s:=hc;repeat' (first|simp only[go_sem,seval,g,e3,o3]|with_reducible refine B3P b (by omega) f.s _ ?_)
    rw[←hc];exact P9 [(1,nsD r),(2,nsD c),(3,.box o 0)] Bs (by simp only[go_sem,seval]) (D1z _) (M trivial)
   ·rw[if_neg o3]at hc;have hc:c=b:=hc;repeat' simp only[go_sem,seval,g,e3,o3]
    rw[←hc];exact P9 [(1,nsD r),(2,nsD c),(3,.box o 0)] Bs (by simp only[go_sem,seval]) (D1z _) (M trivial)
  intro _;repeat' simp only[go_sem,seval,e3]
  refine C9 [33,34] (fun(p:Nat×List ByteArray×List ByteArray)=>[(35,.int .i64 p.1),(1,nsD p.2.1),(2,nsD p.2.2)]) (fun(p:Nat×List ByteArray×List ByteArray)=>Bs) (fun(p:Nat×List ByteArray×List ByteArray)=>p.1≤f.ks.length∧p.2.1=(D5.intsL (f.ks.take p.1)).foldl G8 r∧p.2.2=(C7.boolsL (f.ks.take p.1)).foldl G8 c) (fun(p:Nat×List ByteArray×List ByteArray)=>f.ks.length-p.1) ((0,r,c)) (⟨D0t _,rfl,rfl⟩) (by(try simp only[go_sem,seval])<;>(try simp(disch:=omega) [A5])) (by first|exact D1z _|exact A0 (by assumption)|exact B3 (by assumption)|simp only[Heap.Le,Heap.set,Heap.del]at* <;>grind) ?_;rintro a0 rfl ⟨j,x,y⟩ ⟨hj,hx,z⟩;simp only at hj hx z;by_cases d:j<f.ks.length
  ·have e:decide ((j:Int)<f.ks.length)=true:=D0a (by omega);have I:(j:Int)<f.ks.length:=by omega
   have hm:=D0m d;have J:=R3 (D5.intsL (f.ks.take j)) r;have L:=R3 (C7.boolsL (f.ks.take j)) c;rw[←hx]at J;rw[←z]at L;have a4:=A7p (f.ks.take j);have a5:J0.wtL f.ks=J0.wtL (f.ks.take j)+J0.wtL (f.ks.drop j):=by
    conv=>lhs;rw[←D1J j f.ks,A5V]
   have a6:=A4X f.ks j d;repeat' (first|with_reducible apply D0Y|simp only[go_sem,seval,e,I,B2 _ _ d,C2 _ _ d]|simp(disch:=omega) only[A5,B2,A4X,C3,A0H,Z3]|intro u|with_reducible refine O f.ks[j] (by have:=W8 hm;omega) (A.kid hm) x y (by omega) _ ?_|omega)
   refine C4 (j+1,(D5 f.ks[j]).foldl G8 x,(C7 f.ks[j]).foldl G8 y) ⟨by simp only[];omega,?_,?_⟩ (by simp only[];omega) (by(try simp only[go_sem,seval])<;>(try simp(disch:=omega) [A5])) (by simp only[D9,D2,D3]at* <;>grind)
   ·simp only[];rw[A0H _ _ d,D1Q,←hx]
   ·simp only[];rw[Z3 _ _ d,D1Q,←z]
  ·have e:decide ((j:Int)<f.ks.length)=false:=D0b (by omega);rw[D0n (by omega)]at hx z;rw[←hx,←z]at h;repeat' simp only[go_sem,seval,e]
   exact D10 q h
theorem B1C{Q}(f:Fm)(g:FmFit f)(hw:J0 f≤1000000)(H:Heap)(h:Q (.tuple [.sl 1 (Rw K2 (ivF f)),.sl 1 (Rw K2 (bvF f))]) H):E3 48 [.agg (C1 f),.nilsl,.nilsl] H Q:=
 ACalls.fin (B7q _ f (D0s _) g [] [] (by simp;omega) H (D7 (d':=.tuple [.sl 1 (Rw K2 (ivF f)),.sl 1 (Rw K2 (bvF f))]) (.tuple _ _ rfl fun i d d' h1 e=>(match i,h1,e with
  |0,h1,e=>by cases h1;cases e;exact A8q _
  |1,h1,e=>by cases h1;cases e;exact A8q _
  |i+2,h1,e=>by cases h1)) (D13 h)))
theorem B7r{Q}(l m:List ByteArray)(hl:l.length≤1000000000)(hm:m.length≤1000000000)(H:Heap)(h:Q (.bool (meetL l m)) H):E3 59 [.sl 1 (Rw K2 l),.sl 1 (Rw K2 m)] H Q:=by
 refine A9 [] A8 Tryz.func59 rfl ?_;simp only[go_sem,seval,Tryz.results59];repeat' (first|with_reducible apply D0Y|simp only[go_sem,seval]|simp(disch:=omega) only[A5,B2,C3]|intro M|omega)
 refine C9 [1,9,10] (fun(i:Nat)=>[(11,.int .i64 i)]) (fun(i:Nat)=>H) (fun(i:Nat)=>i≤l.length∧∀(j:Nat) (G:j<l.length),j<i→l[j]∉m) (fun(i:Nat)=>l.length-i) (0) (⟨D0t _,fun _ _ h=>absurd h (D1o _)⟩) (by(try simp only[go_sem,seval])<;>(try simp(disch:=omega) [A5])) (by first|exact D1z _|exact A0 (by assumption)|exact B3 (by assumption)|simp only[Heap.Le,Heap.set,Heap.del]at* <;>grind) ?_;rintro V rfl i ⟨W,p⟩;by_cases r:i<l.length
 ·have u:decide ((i:Int)<l.length)=true:=D0a (by omega);have I:(i:Int)<l.length:=by omega
  repeat' (first|with_reducible apply D0Y|simp only[go_sem,seval,u,I,B2 _ _ r,C2 _ _ r]|omega)
  refine C9 [1,6,9,10,11,15,16] (fun(j:Nat)=>[(17,.int .i64 j)]) (fun(j:Nat)=>H) (fun(j:Nat)=>j≤m.length∧∀(k:Nat) (hk:k<m.length),k<j→m[k]≠l[i]) (fun(j:Nat)=>m.length-j) (0) (⟨D0t _,fun _ _ h=>absurd h (D1o _)⟩) (by(try simp only[go_sem,seval])<;>(try simp(disch:=omega) [A5])) (by first|exact D1z _|exact A0 (by assumption)|exact B3 (by assumption)|simp only[Heap.Le,Heap.set,Heap.del]at* <;>grind) ?_;rintro O rfl j ⟨G,z⟩;by_cases o:j<m.length
  ·have d:decide ((j:Int)<m.length)=true:=D0a (by omega);have A:(j:Int)<m.length:=by omega
   by_cases q:l[i]=m[j]
   ·have J:decide (B l[i]=B m[j])=true:=D0a (by rw[q]);have y:meetL l m=true:=(A04 _ _).2 ⟨_,D0m r,q ▸ D0m o⟩;rw[y]at h;repeat' (first|with_reducible apply D0Y|simp only[go_sem,seval,d,A,B2 _ _ o,C2 _ _ o,J]|omega)
    exact D13 h
   ·have J:decide (B l[i]=B m[j])=false:=D0b fun e=>q (X9 e);repeat' (first|with_reducible apply D0Y|simp only[go_sem,seval,d,A,B2 _ _ o,C2 _ _ o,J]|simp(disch:=omega) only[A5,B2,C3]|omega)
    refine C4 (j+1) ⟨by omega,fun k hk T=>?_⟩ (by omega) (by(try simp only[go_sem,seval])<;>(try simp(disch:=omega) [A5])) (D1z _);rcases Nat.lt_or_ge k j with g|g
    ·exact z k hk g
    ·have:k=j:=by omega
     subst this;exact fun e=>q e.symm
  ·have d:decide ((j:Int)<m.length)=false:=D0b (by omega);repeat' (first|simp only[go_sem,seval,d]|simp(disch:=omega) only[A5,B2,C3])
   refine C4 (i+1) ⟨by omega,fun k hk U=>?_⟩ (by omega) (by(try simp only[go_sem,seval])<;>(try simp(disch:=omega) [A5])) (D1z _);rcases Nat.lt_or_ge k i with g|g
   ·exact p k hk g
   ·have:k=i:=by omega
    subst this;intro C;obtain⟨q,hq,e⟩:=List.getElem_of_mem C;exact z q hq (by omega) e
 ·have u:decide ((i:Int)<l.length)=false:=D0b (by omega);have y:meetL l m=false:=by
   rw[←D1u,A04];rintro⟨x,hx,L⟩;obtain⟨j,G,rfl⟩:=List.getElem_of_mem hx;exact p j G (by omega) L
  rw[y]at h;repeat' simp only[go_sem,seval,u]
  exact D13 h
theorem B1D{Q}(f:Fm)(j:FmFit f)(x:VOk f)(H:Heap)(h:Q (.bool (E6 f)) H):E3 19 [.agg (C1 f)] H Q:=by
 refine A9 [] A8 Tryz.func19 rfl ?_;simp only[go_sem,seval,Tryz.results19];have o:E6 f=(Z5 f 60&&decide (F3 f≤200)&& !meetL (ivF f) (bvF f)&&decide ((ivF f).length+(bvF f).length≤12)):=by
  rw[A05];unfold Z5;rw[show decide ((N6 f:Int)≤60)=decide (N6 f≤60)from D1B.2 (by omega)];cases I5 E4 f<;>cases decide (N6 f≤60)<;>rfl
 rw[o]at h;intro m h1;have e1:(H.set m (.box (C1 f))) m=some (.box (C1 f)):=A3 _ _;have d:H.Le (H.set m (.box (C1 f))):=A0 h1;generalize H.set m (.box (C1 f))=Bs at e1 d⊢;have e:=fun(Q:D→Heap→Prop) (H:Heap)=>C0B (Q:=Q) f j H;cases hs:Z5 f 60 with
 |false=>
  rw[hs]at h e;simp only[Bool.false_and]at h;repeat' (first|simp only[go_sem,seval,e1]|with_reducible refine e _ _ ?_)
  exact D10 d h
 |true=>
  have i:I5 E4 f=true:=by unfold Z5 at hs;rw[D0l]at hs;exact hs.2
  have hw:J0 f≤1000000:=by
   rcases x with g|g
   ·exact g
   ·rw[i]at g;cases g
  have y:=A2X f;have z:=A3k f;have A:(ivF f).length≤1000000:=by have:=R3 (D5 f) [];unfold ivF upS;simp at this;omega
  have C:(bvF f).length≤1000000:=by have:=R3 (C7 f) [];unfold bvF upS;simp at this;omega
  rw[hs]at h e;simp only[Bool.true_and]at h;have p:decide ((ivF f).length+(bvF f).length≤12)=decide (((ivF f).length:Int)+(bvF f).length≤12):=D1B.2 (by omega);rw[p]at h;by_cases q:F3 f≤200
  ·have r: ¬(200:Int)<F3 f:=by omega
   rw[D0a q]at h;simp only[Bool.true_and]at h;have u:=fun(Q:D→Heap→Prop) (H:Heap)=>B7r (Q:=Q) (ivF f) (bvF f) (by omega) (by omega) H;generalize meetL (ivF f) (bvF f)=I at h u;repeat' (first|with_reducible apply D0Y|simp only[go_sem,seval,e1,r]|simp(disch:=omega) only[A5,C3]|intro G|with_reducible refine e _ _ ?_|with_reducible refine B3m _ f (D0s _) j hw _ ?_|with_reducible refine B1C f j hw _ ?_|with_reducible refine u _ _ ?_)
   all_goals (refine D10 d ?_;simp_all)
  ·have r:(200:Int)<F3 f:=by omega
   rw[D0b q]at h;simp only[Bool.false_and]at h;repeat' (first|simp only[go_sem,seval,e1,r]|with_reducible refine e _ _ ?_|with_reducible refine B3m _ f (D0s _) j hw _ ?_)
   all_goals exact D10 d h
theorem B7s{Q}(vs:List VlV)(k:Fm)(b:Nat)(H:Heap)(hb:H b=some (.box [.sl 2 (Rw vlC vs)]))(j: ∀(Q:D→Heap→Prop) (H:Heap),Q (.bool (Q1 k vs)) H→E3 63 [.agg (C1 k),.sl 2 (Rw vlC vs)] H Q)(h:Q (.bool (!Q1 k vs)) H):E3 109 [.agg (C1 k),.box b 0] H Q:=by
 refine A9 [] A8 Tryz.func109 rfl ?_;simp only[go_sem,seval,Tryz.results109];intro d i;have n2:b≠d:=fun e=>by rw[←e,hb]at i;cases i
 have e1:(H.set d (.box (C1 k))) b=some (.box [.sl 2 (Rw vlC vs)]):=by rw[A4 _ n2];exact hb
 have e2:(H.set d (.box (C1 k))) d=some (.box (C1 k)):=A3 _ _;have g:H.Le (H.set d (.box (C1 k))):=A0 i;generalize H.set d (.box (C1 k))=Bs at e1 e2 g⊢;repeat' (first|simp only[go_sem,seval,e1,e2]|with_reducible refine j _ _ ?_)
 exact D10 g h
theorem B7t{Q}(vs:List VlV)(k:Fm)(b:Nat)(H:Heap)(hb:H b=some (.box [.sl 2 (Rw vlC vs)]))(j: ∀(Q:D→Heap→Prop) (H:Heap),Q (.bool (Q1 k vs)) H→E3 63 [.agg (C1 k),.sl 2 (Rw vlC vs)] H Q)(h:Q (.bool (Q1 k vs)) H):E3 110 [.agg (C1 k),.box b 0] H Q:=by
 refine A9 [] A8 Tryz.func110 rfl ?_;simp only[go_sem,seval,Tryz.results110];intro d i;have n2:b≠d:=fun e=>by rw[←e,hb]at i;cases i
 have e1:(H.set d (.box (C1 k))) b=some (.box [.sl 2 (Rw vlC vs)]):=by rw[A4 _ n2];exact hb
 have e2:(H.set d (.box (C1 k))) d=some (.box (C1 k)):=A3 _ _;have g:H.Le (H.set d (.box (C1 k))):=A0 i;generalize H.set d (.box (C1 k))=Bs at e1 e2 g⊢;repeat' (first|simp only[go_sem,seval,e1,e2]|with_reducible refine j _ _ ?_)
 exact D10 g h
theorem B7u(l:List Fm)(p:Fm→Bool):(!l.any fun k=> !p k)=l.all p:=by
 induction l with
 |nil=>rfl
 |cons x l d=>rw[D1d,D1b,←d];cases p x<;>simp
theorem C0C(vs:List VlV)(I:A7M vs)(hv:M8 vs=true)(n:Nat): ∀{Q} (f:Fm) (hn:SizeOf.sizeOf f≤n) (r:I5 E4 f=true) (u:FmFit f) (H:Heap) (h:Q (.bool (Q1 f vs)) H),E3 63 [.agg (C1 f),.sl 2 (Rw vlC vs)] H Q:=by
 induction n with
 |zero=>intro Q f hn;cases f;simp at hn
 |succ n J=>
 intro Q f hn r u H h;refine A9 [] A8 Tryz.func63 rfl ?_;simp only[go_sem,seval,Tryz.results63];have q:=u.kl;have L:=I.len;have g: ∀k∈f.ks,∀(Q:D→Heap→Prop) (H:Heap),Q (.bool (Q1 k vs)) H→E3 63 [.agg (C1 k),.sl 2 (Rw vlC vs)] H Q:=fun k hk Q H hq=>J k (by have:=W8 hk;omega) (S7 r hk) (u.kid hk) H hq;intro p M j x;simp only[A6]at x;have y:p≠j:=fun e=>x.1 e.symm;have e2:((H.set p (.box (C1 f))).set j (.box [.sl 2 (Rw vlC vs)])) p=some (.box (C1 f)):=by rw[A4 _ y,A3]
 have e3:((H.set p (.box (C1 f))).set j (.box [.sl 2 (Rw vlC vs)])) j=some (.box [.sl 2 (Rw vlC vs)]):=A3 _ _;have i:H.Le ((H.set p (.box (C1 f))).set j (.box [.sl 2 (Rw vlC vs)])):=(A0 M).trans (A0 (by simp only[A6];exact x));generalize (H.set p (.box (C1 f))).set j (.box [.sl 2 (Rw vlC vs)])=Bs at e2 e3 i⊢;cases Z4 r with
 |con m hm=>
  rw[C9I _ rfl]at h;simp only[Fm.n]at h;repeat' simp only[go_sem,seval,e2]
  exact D10 i h
 |lin l hl hp=>
  rw[C9J _ rfl]at h;simp only[Fm.l]at h;obtain⟨T,K,E⟩:=l;have C:=fun(Q:D→Heap→Prop) (H:Heap)=>B9R (Q:=Q) ⟨T,K,E⟩ hl vs hv (by omega) H;generalize (T6 K T vs).getD 0=z at h C;unfold B1u at h;repeat' (first|with_reducible apply D0Y|simp only[go_sem,seval,e2,e3]|(intro A;try simp only[A6]at A)|with_reducible refine C _ _ ?_)
  all_goals (refine D10 i ?_;simp_all)
 |var s hp=>
  rw[C9K _ rfl]at h;simp only[Fm.s]at h;repeat' (first|simp only[go_sem,seval,e2,e3]|with_reducible refine B0b vs hv s (by omega) _ ?_)
  exact D10 i h
 |not k=>
  rw[C9L _ rfl rfl]at h;have O:(Rw C1 [k]).getD 0 []=C1 k:=rfl;have U:=g k (D0j ..);repeat' (first|with_reducible apply D0Y|simp only[go_sem,seval,e2,e3,O]|with_reducible refine U _ _ ?_|omega)
  all_goals first
   |exact D10 i h
   |decide
   |omega
 |and ks=>
  rw[C9M _ rfl]at h;simp only[Fm.ks]at h g q;have V:=A8y (Q:=fun d G=>d= .bool (ks.any fun k=> !Q1 k vs)∧G=Bs) (fun k=> !Q1 k vs) ks (by omega) 109 [] [.box j 0] Bs (fun k hk _ Q hq=>B7s vs ks[k] j Bs e3 (g _ (D0m hk)) hq) ⟨rfl,rfl⟩;have o: ∀(Q:D→Heap→Prop),Q (.bool (ks.any fun k=> !Q1 k vs)) Bs→E3 108 [.sl 7 (Rw C1 ks),.fn (.func 109) [] [.box j 0]] Bs Q:=fun Q hq=>V.mono fun d G ⟨h1,W⟩=>by rw[h1,W];exact hq
  rw[←B7u]at h;repeat' (first|simp only[go_sem,seval,e2,e3]|with_reducible refine o _ ?_)
  exact D10 i h
 |or ks=>
  rw[C9N _ rfl]at h;simp only[Fm.ks]at h g q;have o:=fun(Q:D→Heap→Prop)=>A8y (Q:=Q) (fun k=>Q1 k vs) ks (by omega) 110 [] [.box j 0] Bs (fun k hk _ Q hq=>B7t vs ks[k] j Bs e3 (g _ (D0m hk)) hq);repeat' (first|simp only[go_sem,seval,e2,e3]|with_reducible refine o _ ?_)
  exact D10 i h
theorem C0D{Q}(vs:List VlV)(d:A7M vs)(hv:M8 vs=true)(f:Fm)(e:I5 E4 f=true)(g:FmFit f)(H:Heap)(h:Q (.bool (Q1 f vs)) H):E3 63 [.agg (C1 f),.sl 2 (Rw vlC vs)] H Q:=C0C vs d hv _ f (D0s _) e g H h
theorem C9P{Q}(f:Fm)(fa:FmFit f)(vo:VOk f)(vs:List VlV)(fv:A7M vs)(H:Heap)(h:Q (.tuple [.bool (atF f vs).1,.int .i64 (atF f vs).2]) H):E3 22 [.agg (C1 f),.sl 2 (Rw vlC vs)] H Q:=by
 refine A9 [] A8 Tryz.func22 rfl ?_;simp only[go_sem,seval,Tryz.results22];have c8:=fv.len;intro O g2;have e2:(H.set O (.box (C1 f))) O=some (.box (C1 f)):=A3 _ _;have J:H.Le (H.set O (.box (C1 f))):=A0 g2;generalize H.set O (.box (C1 f))=Bs at e2 J⊢;have W:=fun(Q:D→Heap→Prop) (H:Heap)=>R4 (Q:=Q) f fa vo H;have wc:=fun(Q:D→Heap→Prop) (H:Heap)=>B6X (Q:=Q) vs fv H;unfold atF at h;cases hf:E6 f with
 |false=>
  rw[hf]at h W;simp only[D0o,false_and,if_false]at h;repeat' (first|simp only[go_sem,seval,e2]|with_reducible refine W _ _ ?_)
  exact D10 J h
 |true=>
  cases hv:M8 vs with
  |false=>
   rw[hf]at h W;rw[hv]at h wc;simp only[D0o,and_false,if_false]at h;repeat' (first|simp only[go_sem,seval,e2]|with_reducible refine W _ _ ?_|with_reducible refine wc _ _ ?_)
   exact D10 J h
  |true=>
   rw[hf]at h W;rw[hv]at h wc;simp only[and_self,if_true]at h;have b3: ∀m,(D.fm m).cells= [D.fm m]:=fun _=>rfl;repeat' (first|simp only[go_sem,seval,e2,b3]|intro o|with_reducible refine W _ _ ?_|with_reducible refine wc _ _ ?_|with_reducible refine A3q (by assumption) f fa rfl ?_)
   rename_i y;have T:=o;clear o;have u:H.Le (Bs.set y (.vec 1 [[.fm (D1 tt (J5 (D5 f)))],[.fm (D1 tt (J5 (C7 f)))]])):=J.trans (A0 T);have n2:O≠y:=fun e=>by rw[←e,e2]at T;cases T
   have c2:(Bs.set y (.vec 1 [[.fm (D1 tt (J5 (D5 f)))],[.fm (D1 tt (J5 (C7 f)))]])) O=some (.box (C1 f)):=by rw[A4 _ n2];exact e2
   have a0:(Bs.set y (.vec 1 [[.fm (D1 tt (J5 (D5 f)))],[.fm (D1 tt (J5 (C7 f)))]])) y=some (.vec 1 [[.fm (D1 tt (J5 (D5 f)))],[.fm (D1 tt (J5 (C7 f)))]]):=A3 _ _;generalize Bs.set y (.vec 1 [[.fm (D1 tt (J5 (D5 f)))],[.fm (D1 tt (J5 (C7 f)))]])=Cs at c2 a0 u⊢;refine C9 [1,2,7,32,33] (fun(j:Nat)=>[(34,.int .i64 j)]) (fun(j:Nat)=>Cs) (fun(j:Nat)=>j≤2∧(0<j→∀s∈D5 f,(P0 vs s).isSome=true)∧(1<j→∀s∈C7 f,(P0 vs s).isSome=true)) (fun(j:Nat)=>2-j) (0) (⟨D0t _,fun h=>absurd h (by decide),fun h=>absurd h (by decide)⟩) (by(try simp only[go_sem,seval])<;>(try simp(disch:=omega) [A5])) (by first|exact D1z _|exact A0 (by assumption)|exact B3 (by assumption)|simp only[Heap.Le,Heap.set,Heap.del]at* <;>grind) ?_;rintro Ec rfl j ⟨hj,a4,b4⟩;by_cases b6:j<2
   ·have U:decide ((j:Int)<2)=true:=D0a (by omega);have b7:(j:Int)<2:=by omega
    obtain⟨ks,G,a5,b8,b9⟩: ∃ks:List ByteArray,([[D.fm (D1 tt (J5 (D5 f)))],[.fm (D1 tt (J5 (C7 f)))]]).getD j []= [.fm (D1 tt ks)]∧([[D.fm (D1 tt (J5 (D5 f)))],[.fm (D1 tt (J5 (C7 f)))]])[j]? =some [.fm (D1 tt ks)]∧
      ((∀s∈ks,(P0 vs s).isSome=true)→(0<j+1→∀s∈D5 f,(P0 vs s).isSome=true)∧(1<j+1→∀s∈C7 f,(P0 vs s).isSome=true))∧(∀s∈ks,(P0 vs s).isSome=false→A6e f vs=false):=by
     match j,b6 with
     |0,_=>exact⟨J5 (D5 f),rfl,rfl,fun h=>⟨fun _ s hs=>h s ((G3 _ _).2 hs),fun h=>absurd h (by decide)⟩,fun s hs hn=>by
       rw[←D1u,A4d];intro g;rw[g s (.inl ((G3 _ _).1 hs))]at hn;cases hn⟩
     |1,_=>exact⟨J5 (C7 f),rfl,rfl,fun h=>⟨fun _=>a4 (by decide),fun _ s hs=>h s ((G3 _ _).2 hs)⟩,fun s hs hn=>by
       rw[←D1u,A4d];intro g;rw[g s (.inr ((G3 _ _).1 hs))]at hn;cases hn⟩
    have r:(D1 tt ks).length=ks.length:=by simp[D1]
    repeat' (first|with_reducible apply D0Y|simp only[go_sem,seval,U,b7,a0,G,a5]|intro o|omega)
    rename_i A;have a6:=o;clear o;refine C9 [1,2,7,32,33,34,39] (fun(s:List Nat)=>[]) (fun(s:List Nat)=>Cs.set A (.rng (D1 tt ks) s)) (fun(s:List Nat)=>∀(i:Nat) (d:i<ks.length),i∈s→(P0 vs ks[i]).isSome=true) (fun(s:List Nat)=>A6b ks.length s) ([]) (fun _ _ h=>absurd h D01) (by simp only[go_sem,seval]) (by first|exact D1z _|exact A0 (by assumption)|exact B3 (by assumption)|simp only[Heap.Le,Heap.set,Heap.del]at* <;>grind) ?_;rintro c0 rfl s hs;have c1:(Cs.set A (.rng (D1 tt ks) s)) A=some (.rng (D1 tt ks) s):=A3 _ _;repeat' simp only[go_sem,seval,c1]
    refine A8U (fun i d hn=>?_) (fun I=>?_)
    ·rw[r]at d;have X:((Cs.set A (.rng (D1 tt ks) s)).set A (.rng (D1 tt ks) (s++[i]))) A=some (.rng (D1 tt ks) (s++[i])):=A3 _ _;have Y:(D1 tt ks)[i]? =some (.str ks[i],.bool true):=by simp[D1,d]
     have C:(D1 tt ks)[i]'(by rw[r];exact d)=(.str ks[i],.bool true):=by simp[D1]
     have L:=fun(Q:D→Heap→Prop) (H:Heap)=>B0b (Q:=Q) vs hv ks[i] (by omega) H;cases hg:(P0 vs ks[i]).isSome with
     |true=>
      rw[hg]at L;repeat' (first|simp only[go_sem,seval,X,Y,C,List.getLast?_concat]|with_reducible refine L _ _ ?_)
      refine C4 (s++[i]) (fun q hq hm=>?_) (A18 d hn) (by simp only[go_sem,seval]) (D1z _);rcases D0y.1 hm with z|z
      ·exact hs q hq z
      ·rw[D0z]at z;subst z;exact hg
     |false=>
      rw[hg]at L;rw[b9 _ (D0m d) hg]at h;simp only[D0o,if_false]at h;repeat' (first|simp only[go_sem,seval,X,Y,C,List.getLast?_concat]|with_reducible refine L _ _ ?_)
      refine D10 ?_ h;refine u.trans ?_;exact A0 a6
    ·have c3: ∀s∈ks,(P0 vs s).isSome=true:=fun x hx=>by
      obtain⟨i,d,rfl⟩:=List.getElem_of_mem hx;exact hs i d (I i (by rw[r];exact d))
     repeat' (first|simp only[go_sem,seval]|simp(disch:=omega) only[A5,C3])
     exact C4 (j+1) ⟨by omega,b8 c3⟩ (by omega) (by(try simp only[go_sem,seval])<;>(try simp(disch:=omega) [A5])) (A0 a6)
   ·have U:decide ((j:Int)<2)=false:=D0b (by omega);have c4:A6e f vs=true:=(A4d f vs).2 fun s hs=>hs.elim (a4 (by omega) s) (b4 (by omega) s);rw[c4]at h;simp only[if_true]at h;obtain⟨ks,G⟩: ∃ks,ks=J5 (C7 f):=⟨_,rfl⟩
    have r:(D1 tt ks).length=ks.length:=by simp[D1]
    rw[←G];repeat' (first|with_reducible apply D0Y|simp only[go_sem,seval,U]|intro o|omega)
    rename_i p;have M:=o;clear o;refine C9 [1,2,54] (fun(s:List Nat)=>[]) (fun(s:List Nat)=>Cs.set p (.rng (D1 tt ks) s)) (fun(s:List Nat)=>∀(i:Nat) (d:i<ks.length),i∈s→((P0 vs ks[i]).getD 0=0∨(P0 vs ks[i]).getD 0=1)) (fun(s:List Nat)=>A6b ks.length s) ([]) (fun _ _ h=>absurd h D01) (by simp only[go_sem,seval]) (by first|exact D1z _|exact A0 (by assumption)|exact B3 (by assumption)|simp only[Heap.Le,Heap.set,Heap.del]at* <;>grind) ?_;rintro c0 rfl s hs;have c5:(Cs.set p (.rng (D1 tt ks) s)) p=some (.rng (D1 tt ks) s):=A3 _ _;have c6:O≠p:=fun e=>by rw[←e,c2]at M;cases M
    have a9:(Cs.set p (.rng (D1 tt ks) s)) O=some (.box (C1 f)):=by rw[A4 _ c6];exact c2
    repeat' simp only[go_sem,seval,c5]
    refine A8U (fun i d hn=>?_) (fun I=>?_)
    ·rw[r]at d;have X:((Cs.set p (.rng (D1 tt ks) s)).set p (.rng (D1 tt ks) (s++[i]))) p=some (.rng (D1 tt ks) (s++[i])):=A3 _ _;have Y:(D1 tt ks)[i]? =some (.str ks[i],.bool true):=by simp[D1,d]
     have C:(D1 tt ks)[i]'(by rw[r];exact d)=(.str ks[i],.bool true):=by simp[D1]
     have L:=fun(Q:D→Heap→Prop) (H:Heap)=>B0b (Q:=Q) vs hv ks[i] (by omega) H;obtain⟨v,V⟩: ∃v,v=(P0 vs ks[i]).getD 0:=⟨_,rfl⟩
     rw[←V]at L;have b0:(v=0∨v=1)→∀(j:Nat) (hj:j<ks.length),j∈s++[i]→((P0 vs ks[j]).getD 0=0∨(P0 vs ks[j]).getD 0=1):=fun b1 q hq hm=>by
      rcases D0y.1 hm with z|z
      ·exact hs q hq z
      ·rw[D0z]at z;subst z;rw[←V];exact b1
     by_cases v0:v=0
     ·repeat' (first|simp only[go_sem,seval,X,Y,C,List.getLast?_concat,v0]|with_reducible refine L _ _ ?_)
      exact C4 (s++[i]) (b0 (.inl v0)) (A18 d hn) (by simp only[go_sem,seval]) (by simp only[D9,D2,D3]at* <;>grind)
     ·by_cases v1:v=1
      ·repeat' (first|simp only[go_sem,seval,X,Y,C,List.getLast?_concat,v1]|with_reducible refine L _ _ ?_)
       exact C4 (s++[i]) (b0 (.inr v1)) (A18 d hn) (by simp only[go_sem,seval]) (by simp only[D9,D2,D3]at* <;>grind)
      ·have hb:Go.Fo.bits f vs=false:=by
        rw[←D1u,B01];intro g;have:=g ks[i] ((G3 _ _).1 (by rw[←G];exact D0m d));rw[←V]at this;omega
       rw[hb]at h;simp only[D0o,if_false]at h;repeat' (first|simp only[go_sem,seval,X,Y,C,List.getLast?_concat,v0,v1]|with_reducible refine L _ _ ?_)
       refine D10 ?_ h;refine u.trans ?_;exact A0 M
    ·have hb:Go.Fo.bits f vs=true:=(B01 f vs).2 fun x hx=>by
      have c7:x∈ks:=by rw[G];exact(G3 _ _).2 hx
      obtain⟨i,d,rfl⟩:=List.getElem_of_mem c7;exact hs i d (I i (by rw[r];exact d))
     rw[hb]at h;simp only[if_true]at h;repeat' (first|simp only[go_sem,seval,a9]|with_reducible refine C0D vs fv hv f (O1 hf) fa _ ?_)
     exact D10 (u.trans (A0 M)) h
end Go.Proofs.YtibphjonmikciaaGreatDoor
namespace Go.Av
theorem A2D{b sz:Nat}{es:List (List D)}{d:D}{H H':Heap}{Q:D→Heap→Prop}(hb:H b=some (.vec sz es))
  (A: ∀k o',H' k=some o'→k≠b∧∃o,H k=some o∧OFz b sz es o o') (h:Fin Q d H'):Fin Q d H:=by
 unfold Fin at h⊢;obtain⟨V,d1,h1,x⟩:=h;refine⟨V,d1,Shift.trans (fun w v hr hs=>?_) h1,x⟩;have e: ∀k,H.held k=false→H'.held k=false:=fun k hk=>by
  cases ho:H' k with
  |none=>exact H8 ho
  |some o'=>
   obtain⟨_,o,h1,x⟩:=A k o' ho;rw[J2 h1]at hk;rw[J2 ho];cases x<;>exact hk
 have C: ∀{d d':D} {v:Value},Fz b sz es d d'→R w H d v→R w H' d' v:=fun q hr=>(q.R hs hb hr).mono (D16 _ _) fun k _ hk=>by
  by_cases y:k=b
  ·subst y;cases ho:H' k with
   |none=>exact H8 ho
   |some o'=>exact absurd rfl (A k o' ho).1
  ·refine e k ?_;rw[←A0N (H:=H) (H':=H.del b) (k:=k) (by unfold Heap.del;rw[if_neg y])];exact hk
 refine⟨C (.same d) hr,fun k o' ho=>?_,e⟩;obtain⟨_,o,h1,x⟩:=A k o' ho;have r:=hs k o h1;cases x with
 |same=>exact r.mono (D16 H w) (fun k _ hk=>e k hk) rfl
 |box cs cs' Z hl q=>
  obtain⟨c,T,lo,G,I,J,O,z,L⟩:=r;refine⟨c,T,lo,G,I,J,by omega,fun j d' m=>?_,L⟩;have W:=(D0i.1 m).1;have u:cs[j]? =some (cs[j]'(by omega)):=D0p _;have p:=q j _ _ u m;exact⟨p.one (z j _ u).1,C p (z j _ u).2⟩
 |vec s xs xs' hl q=>
  obtain⟨c,T,lo,G,I,J,O,z,L,U⟩:=r;refine⟨c,T,lo,G,I,J,O,by rw[←hl];exact z,fun i x' g=>?_,fun i x' j d' g m=>?_⟩
  ·have M:=(D0i.1 g).1;have hx:xs[i]? =some (xs[i]'(by omega)):=D0p _;rw[←(q i _ _ hx g).1];exact L i _ hx
  ·have M:=(D0i.1 g).1;have hx:xs[i]? =some (xs[i]'(by omega)):=D0p _;have hlen:=(q i _ _ hx g).1;have W:=(D0i.1 m).1;have u:(xs[i]'(by omega))[j]? =some ((xs[i]'(by omega))[j]'(by omega)):=D0p _;have p:=(q i _ _ hx g).2 j _ _ u m;exact⟨p.one (U i _ j _ hx u).1,C p (U i _ j _ hx u).2⟩
def fzD(b sz:Nat)(es:List (List D)):D→D→Prop
 |d,d'=>d=d'∨(d= .vec b sz 0 es.length∧d'= .sl sz es)
theorem C31{b sz:Nat}{es:List (List D)}{d d':D}(h:fzD b sz es d d'):Fz b sz es d d':=by
 rcases h with rfl|⟨rfl,rfl⟩
 ·exact .same _
 ·exact .all
def fzL(b sz:Nat)(es:List (List D)):List D→List D→Prop
 | [],[]=>True
 |d::l,d'::l'=>fzD b sz es d d'∧fzL b sz es l l'
 |_,_=>False
theorem A9A{b sz:Nat}{es:List (List D)}: ∀{l l':List D},fzL b sz es l l'→l.length=l'.length∧∀(i:Nat) d d',l[i]? =some d→l'[i]? =some d'→Fz b sz es d d'
 | [],[],_=>⟨rfl,fun i d d' h=>by cases h⟩
 |d::l,d'::l',h=>by
  obtain⟨h1,g⟩:=A9A h.2;refine⟨by rw[D0d,D0d,h1],fun i x x' hx e=>?_⟩;cases i with
  |zero=>cases hx;cases e;exact C31 h.1
  |succ i=>exact g i x x' hx e
 | [],_::_,h=>h.elim
 |_::_,[],h=>h.elim
def fzV(b sz:Nat)(es:List (List D)):List (List D)→List (List D)→Prop
 | [],[]=>True
 |d::l,d'::l'=>fzL b sz es d d'∧fzV b sz es l l'
 |_,_=>False
theorem A9B{b sz:Nat}{es:List (List D)}: ∀{l l':List (List D)},fzV b sz es l l'→l.length=l'.length∧∀(i:Nat) x x',l[i]? =some x→l'[i]? =some x'→x.length=x'.length∧∀(j:Nat) d d',x[j]? =some d→x'[j]? =some d'→Fz b sz es d d'
 | [],[],_=>⟨rfl,fun i d d' h=>by cases h⟩
 |d::l,d'::l',h=>by
  obtain⟨h1,g⟩:=A9B h.2;refine⟨by rw[D0d,D0d,h1],fun i x x' hx e=>?_⟩;cases i with
  |zero=>cases hx;cases e;exact A9A h.1
  |succ i=>exact g i x x' hx e
 | [],_::_,h=>h.elim
 |_::_,[],h=>h.elim
theorem A2e{b sz c s:Nat}{es xs xs':List (List D)}{H G:Heap}(hc:H c=some (.vec s xs))(d:c≠b)(g:fzV b sz es xs xs')(h: ∀k o',G k=some o'→k≠b∧∃o,H k=some o∧OFz b sz es o o'):
  ∀k o',(G.set c (.vec s xs')) k=some o'→k≠b∧∃o,H k=some o∧OFz b sz es o o':=by
 intro k o' hk;by_cases e:k=c
 ·subst e;rw[A3]at hk;cases hk;exact⟨d,_,hc,.vec _ _ _ (A9B g).1 (A9B g).2⟩
 ·rw[A4 _ e]at hk;exact h k o' hk
theorem B7v{b sz:Nat}{es:List (List D)}{H G:Heap}(h:G.Le H)(hb:G b=none): ∀k o',G k=some o'→k≠b∧∃o,H k=some o∧OFz b sz es o o':=fun k o' hk=>⟨fun e=>(by rw[e,hb]at hk;cases hk),o',h k o' hk,.same _⟩
def nlD:D→D→Prop
 |d,d'=>d=d'∨NilR d d'
def nlL:List D→List D→Prop
 | [],[]=>True
 |d::l,d'::l'=>nlD d d'∧nlL l l'
 |_,_=>False
theorem A5c: ∀{l l':List D},nlL l l'→l.length=l'.length∧∀(i:Nat) d d',l[i]? =some d→l'[i]? =some d'→NilR d d'
 | [],[],_=>⟨rfl,fun i d d' h=>by cases h⟩
 |d::l,d'::l',h=>by
  obtain⟨h1,g⟩:=A5c h.2;refine⟨by rw[D0d,D0d,h1],fun i x x' hx e=>?_⟩;cases i with
  |zero=>cases hx;cases e;rcases h.1 with rfl|q;exact .same _;exact q
  |succ i=>exact g i x x' hx e
 | [],_::_,h=>h.elim
 |_::_,[],h=>h.elim
def nlV:List (List D)→List (List D)→Prop
 | [],[]=>True
 |d::l,d'::l'=>nlL d d'∧nlV l l'
 |_,_=>False
theorem A5d: ∀{l l':List (List D)},nlV l l'→l.length=l'.length∧∀(i:Nat) x x',l[i]? =some x→l'[i]? =some x'→x.length=x'.length∧∀(j:Nat) d d',x[j]? =some d→x'[j]? =some d'→NilR d d'
 | [],[],_=>⟨rfl,fun i d d' h=>by cases h⟩
 |d::l,d'::l',h=>by
  obtain⟨h1,g⟩:=A5d h.2;refine⟨by rw[D0d,D0d,h1],fun i x x' hx e=>?_⟩;cases i with
  |zero=>cases hx;cases e;exact A5c h.1
  |succ i=>exact g i x x' hx e
 | [],_::_,h=>h.elim
 |_::_,[],h=>h.elim
theorem B7w{z:Nat}{es es':List (List D)}(h:nlV es es'):NilR (.sl z es) (.sl z es'):=
 .sl z es es' (A5d h).1 (fun i e e' h1 g=>((A5d h).2 i e e' h1 g).1) fun i e e' j d d' h1 g m o=>((A5d h).2 i e e' h1 g).2 j d d' m o
theorem C32{cs cs':List D}(h:nlL cs cs'):NilR (.agg cs) (.agg cs'):=.agg _ _ (A5c h).1 (A5c h).2
end Go.Av
namespace Go.Proofs.YtibphjonmikciaaGreatDoor
open Go Go.Av Go.Lexs Go.Lin Go.Fo
attribute [local irreducible] ACalls S9
theorem A70{Q}(H:Heap)(h:Q (.agg (C1 fxF)) H):E3 44 [] H Q:=by
 refine A9 [] A8 Tryz.func44 rfl ?_;simp only[go_sem,seval,Tryz.results44];repeat' (first|simp only[go_sem,seval]|simp(disch:=first|omega|grind) only[B4,D4]|(intro m;try simp only[A6]at m))
 rename_i A J a L p hp q hq d1 h1 d C g;have u:=m;clear m;have i:a≠A∧a≠p∧a≠q∧a≠d1∧a≠d∧a≠g:=⟨L.1,hp.1.symm,hq.2.1.symm,h1.2.2.1.symm,C.2.2.2.1.symm,u.2.2.2.2.1.symm⟩
 have j:d1≠A∧d1≠d∧d1≠g:=⟨h1.2.2.2.1,C.1.symm,u.2.1.symm⟩
 have ne:d≠A∧d≠g:=⟨C.2.2.2.2.1,u.1.symm⟩
 have U:g≠A:=u.2.2.2.2.2.1;have T:H a=none:=L.2;have M:H d1=none:=h1.2.2.2.2;have G:H d=none:=C.2.2.2.2.2;have V:H p=none:=hp.2.2;have W:H q=none:=hq.2.2.2;have I:H g=none:=u.2.2.2.2.2.2;clear L hp hq h1 C u;refine A2D (b:=a) (sz:=2) (es:=[[.str ⟨#[120]⟩,.int .i64 1]]) (by rw[A4 _ i.1,A4 _ i.2.2.2.2.2,A4 _ i.2.2.2.2.1,A4 _ i.2.2.2.1,A4 _ i.2.2.1,A4 _ i.2.1,A3]) (H':=((H.set d1 (.vec 7 [[.int .i64 3,.int .i64 0,.nilsl,.int .i64 0,.bool false,.str ⟨#[98]⟩,.nilsl]])).set d (.vec 7 ([[.int .i64 2,.int .i64 0,.sl 2 [[.str ⟨#[120]⟩,.int .i64 1]],.int .i64 (-3),.bool true,.str ⟨#[]⟩,.nilsl],[.int .i64 4,.int .i64 0,.nilsl,.int .i64 0,.bool false,.str ⟨#[]⟩,.vec d1 7 0 1]]))).set g (.vec 7 ([[.int .i64 2,.int .i64 0,.sl 2 [[.str ⟨#[120]⟩,.int .i64 1]],.int .i64 (-1),.bool false,.str ⟨#[]⟩,.nilsl],[.int .i64 6,.int .i64 0,.nilsl,.int .i64 0,.bool false,.str ⟨#[]⟩,.vec d 7 0 2]]))) ?_ ?_
 ·refine A2e (xs:=[[.int .i64 2,.int .i64 0,.vec a 2 0 1,.int .i64 (-1),.bool false,.str ⟨#[]⟩,.nilsl],[.int .i64 6,.int .i64 0,.nilsl,.int .i64 0,.bool false,.str ⟨#[]⟩,.vec d 7 0 2]]) (by rw[A4 _ U,A3]) i.2.2.2.2.2.symm (by simp[fzV,fzL,fzD]) (A2e (xs:=[[.int .i64 2,.int .i64 0,.vec a 2 0 1,.int .i64 (-3),.bool true,.str ⟨#[]⟩,.nilsl],[.int .i64 4,.int .i64 0,.nilsl,.int .i64 0,.bool false,.str ⟨#[]⟩,.vec d1 7 0 1]]) (by rw[A4 _ ne.1,A4 _ ne.2,A3]) i.2.2.2.2.1.symm (by simp[fzV,fzL,fzD]) (A2e (xs:=[[.int .i64 3,.int .i64 0,.nilsl,.int .i64 0,.bool false,.str ⟨#[98]⟩,.nilsl]]) (by rw[A4 _ j.1,A4 _ j.2.2,A4 _ j.2.1,A3]) i.2.2.2.1.symm (by simp[fzV,fzL,fzD]) (B7v ?_ T)));intro k o hk;by_cases O:k=A
  ·rw[O,J]at hk;cases hk
  ·have y: ∀x,H x=none→k≠x:=fun x hx e=>by rw[e,hx]at hk;cases hk
   rw[A4 _ O,A4 _ (y _ I),A4 _ (y _ G),A4 _ (y _ M),A4 _ (y _ W),A4 _ (y _ V),A4 _ (y _ T),A4 _ O];exact hk
 refine A2D (b:=d1) (sz:=7) (es:=[[.int .i64 3,.int .i64 0,.nilsl,.int .i64 0,.bool false,.str ⟨#[98]⟩,.nilsl]]) (by rw[A4 _ j.2.2,A4 _ j.2.1,A3]) (H':=(H.set d (.vec 7 ([[.int .i64 2,.int .i64 0,.sl 2 [[.str ⟨#[120]⟩,.int .i64 1]],.int .i64 (-3),.bool true,.str ⟨#[]⟩,.nilsl],[.int .i64 4,.int .i64 0,.nilsl,.int .i64 0,.bool false,.str ⟨#[]⟩,.sl 7 [[.int .i64 3,.int .i64 0,.nilsl,.int .i64 0,.bool false,.str ⟨#[98]⟩,.nilsl]]]]))).set g (.vec 7 ([[.int .i64 2,.int .i64 0,.sl 2 [[.str ⟨#[120]⟩,.int .i64 1]],.int .i64 (-1),.bool false,.str ⟨#[]⟩,.nilsl],[.int .i64 6,.int .i64 0,.nilsl,.int .i64 0,.bool false,.str ⟨#[]⟩,.vec d 7 0 2]]))) ?_ ?_
 ·refine A2e (xs:=[[.int .i64 2,.int .i64 0,.sl 2 [[.str ⟨#[120]⟩,.int .i64 1]],.int .i64 (-1),.bool false,.str ⟨#[]⟩,.nilsl],[.int .i64 6,.int .i64 0,.nilsl,.int .i64 0,.bool false,.str ⟨#[]⟩,.vec d 7 0 2]]) (A3 _ _) j.2.2.symm (by simp[fzV,fzL,fzD]) (A2e (xs:=[[.int .i64 2,.int .i64 0,.sl 2 [[.str ⟨#[120]⟩,.int .i64 1]],.int .i64 (-3),.bool true,.str ⟨#[]⟩,.nilsl],[.int .i64 4,.int .i64 0,.nilsl,.int .i64 0,.bool false,.str ⟨#[]⟩,.vec d1 7 0 1]]) (by rw[A4 _ ne.2,A3]) j.2.1.symm (by simp[fzV,fzL,fzD]) (B7v ?_ M));exact(A0 M).trans ((A0 (by rw[A4 _ j.2.1.symm];exact G)).trans (A0 (by rw[A4 _ ne.2.symm,A4 _ j.2.2.symm];exact I)))
 refine A2D (b:=d) (sz:=7) (es:=[[.int .i64 2,.int .i64 0,.sl 2 [[.str ⟨#[120]⟩,.int .i64 1]],.int .i64 (-3),.bool true,.str ⟨#[]⟩,.nilsl],[.int .i64 4,.int .i64 0,.nilsl,.int .i64 0,.bool false,.str ⟨#[]⟩,.sl 7 [[.int .i64 3,.int .i64 0,.nilsl,.int .i64 0,.bool false,.str ⟨#[98]⟩,.nilsl]]]]) (by rw[A4 _ ne.2,A3]) (H':=H.set g (.vec 7 ([[.int .i64 2,.int .i64 0,.sl 2 [[.str ⟨#[120]⟩,.int .i64 1]],.int .i64 (-1),.bool false,.str ⟨#[]⟩,.nilsl],[.int .i64 6,.int .i64 0,.nilsl,.int .i64 0,.bool false,.str ⟨#[]⟩,.sl 7 ([[.int .i64 2,.int .i64 0,.sl 2 [[.str ⟨#[120]⟩,.int .i64 1]],.int .i64 (-3),.bool true,.str ⟨#[]⟩,.nilsl],[.int .i64 4,.int .i64 0,.nilsl,.int .i64 0,.bool false,.str ⟨#[]⟩,.sl 7 [[.int .i64 3,.int .i64 0,.nilsl,.int .i64 0,.bool false,.str ⟨#[98]⟩,.nilsl]]]])]]))) ?_ ?_
 ·refine A2e (xs:=[[.int .i64 2,.int .i64 0,.sl 2 [[.str ⟨#[120]⟩,.int .i64 1]],.int .i64 (-1),.bool false,.str ⟨#[]⟩,.nilsl],[.int .i64 6,.int .i64 0,.nilsl,.int .i64 0,.bool false,.str ⟨#[]⟩,.vec d 7 0 2]]) (A3 _ _) ne.2.symm (by simp[fzV,fzL,fzD]) (B7v ?_ G);exact(A0 G).trans (A0 (by rw[A4 _ ne.2.symm];exact I))
 refine Q8 (b:=g) (sz:=7) (es:=[[.int .i64 2,.int .i64 0,.sl 2 [[.str ⟨#[120]⟩,.int .i64 1]],.int .i64 (-1),.bool false,.str ⟨#[]⟩,.nilsl],[.int .i64 6,.int .i64 0,.nilsl,.int .i64 0,.bool false,.str ⟨#[]⟩,.sl 7 ([[.int .i64 2,.int .i64 0,.sl 2 [[.str ⟨#[120]⟩,.int .i64 1]],.int .i64 (-3),.bool true,.str ⟨#[]⟩,.nilsl],[.int .i64 4,.int .i64 0,.nilsl,.int .i64 0,.bool false,.str ⟨#[]⟩,.sl 7 [[.int .i64 3,.int .i64 0,.nilsl,.int .i64 0,.bool false,.str ⟨#[98]⟩,.nilsl]]]])]]) (cs':=[.int .i64 5,.int .i64 0,.nilsl,.int .i64 0,.bool false,.str ⟨#[]⟩,.sl 7 ([[.int .i64 2,.int .i64 0,.sl 2 [[.str ⟨#[120]⟩,.int .i64 1]],.int .i64 (-1),.bool false,.str ⟨#[]⟩,.nilsl],[.int .i64 6,.int .i64 0,.nilsl,.int .i64 0,.bool false,.str ⟨#[]⟩,.sl 7 ([[.int .i64 2,.int .i64 0,.sl 2 [[.str ⟨#[120]⟩,.int .i64 1]],.int .i64 (-3),.bool true,.str ⟨#[]⟩,.nilsl],[.int .i64 4,.int .i64 0,.nilsl,.int .i64 0,.bool false,.str ⟨#[]⟩,.sl 7 [[.int .i64 3,.int .i64 0,.nilsl,.int .i64 0,.bool false,.str ⟨#[98]⟩,.nilsl]]]])]])]) (A3 _ _) rfl (A9A (by simp[fzL,fzD])).2 ?_;refine D7 (d':=.agg (C1 fxF)) ?_ (D10 ?_ h)
 ·have e:C1 fxF= [.int .i64 5,.int .i64 0,.sl 2 [],.int .i64 0,.bool false,.str ⟨#[]⟩,.sl 7 ([[.int .i64 2,.int .i64 0,.sl 2 [[.str ⟨#[120]⟩,.int .i64 1]],.int .i64 (-1),.bool false,.str ⟨#[]⟩,.sl 7 []],[.int .i64 6,.int .i64 0,.sl 2 [],.int .i64 0,.bool false,.str ⟨#[]⟩,.sl 7 ([[.int .i64 2,.int .i64 0,.sl 2 [[.str ⟨#[120]⟩,.int .i64 1]],.int .i64 (-3),.bool true,.str ⟨#[]⟩,.sl 7 []],[.int .i64 4,.int .i64 0,.sl 2 [],.int .i64 0,.bool false,.str ⟨#[]⟩,.sl 7 [[.int .i64 3,.int .i64 0,.sl 2 [],.int .i64 0,.bool false,.str ⟨#[98]⟩,.sl 7 []]]]])]])]:=rfl;rw[e];have r: ∀z,NilR .nilsl (.sl z []):=NilR.nil;refine C32 ?_;refine⟨.inl rfl,.inl rfl,.inr (r _),.inl rfl,.inl rfl,.inl rfl,.inr (B7w ?_),trivial⟩;refine⟨⟨.inl rfl,.inl rfl,.inl rfl,.inl rfl,.inl rfl,.inl rfl,.inr (r _),trivial⟩,⟨.inl rfl,.inl rfl,.inr (r _),.inl rfl,.inl rfl,.inl rfl,.inr (B7w ?_),trivial⟩,trivial⟩;refine⟨⟨.inl rfl,.inl rfl,.inl rfl,.inl rfl,.inl rfl,.inl rfl,.inr (r _),trivial⟩,⟨.inl rfl,.inl rfl,.inr (r _),.inl rfl,.inl rfl,.inl rfl,.inr (B7w ?_),trivial⟩,trivial⟩;exact⟨⟨.inl rfl,.inl rfl,.inr (r _),.inl rfl,.inl rfl,.inl rfl,.inr (r _),trivial⟩,trivial⟩
 ·intro k o hk;have:k≠g:=fun e=>by rw[e,I]at hk;cases hk
  show ((H.set g _).del g) k=_;rw[D4 this,A4 _ this];exact hk
theorem A6n(f:Fm)(x:FmFit f): ∀{Q:D→Heap→Prop} (H:Heap) (h:Q (.bool true) H),E3 21 [.agg (C1 f),.agg (C1 f)] H Q:=by
 induction x with
 |mk o n l s ks ho hn hl hs hk I y=>
 intro Q H h;have e:C1 (.mk o n l s ks)= [.int .i64 o,.int .i64 n,.sl 2 (Rw N7 l.t),.int .i64 l.k,.bool l.e,.str s,.sl 7 (Rw C1 ks)]:=M4 _;rw[e];refine A9 [(6,.par)] A8 Tryz.func21 rfl ?_;simp only[go_sem,seval,Tryz.results21];intro g z j r;simp only[A6]at r;have e2:((H.set g (.box [.int .i64 o,.int .i64 n,.sl 2 (Rw N7 l.t),.int .i64 l.k,.bool l.e,.str s,.sl 7 (Rw C1 ks)])).set j (.box [.int .i64 o,.int .i64 n,.sl 2 (Rw N7 l.t),.int .i64 l.k,.bool l.e,.str s,.sl 7 (Rw C1 ks)])) g=some (.box [.int .i64 o,.int .i64 n,.sl 2 (Rw N7 l.t),.int .i64 l.k,.bool l.e,.str s,.sl 7 (Rw C1 ks)]):=by rw[A4 _ r.1.symm,A3]
 have e3:((H.set g (.box [.int .i64 o,.int .i64 n,.sl 2 (Rw N7 l.t),.int .i64 l.k,.bool l.e,.str s,.sl 7 (Rw C1 ks)])).set j (.box [.int .i64 o,.int .i64 n,.sl 2 (Rw N7 l.t),.int .i64 l.k,.bool l.e,.str s,.sl 7 (Rw C1 ks)])) j=some (.box [.int .i64 o,.int .i64 n,.sl 2 (Rw N7 l.t),.int .i64 l.k,.bool l.e,.str s,.sl 7 (Rw C1 ks)]):=A3 _ _;have p:H.Le ((H.set g (.box [.int .i64 o,.int .i64 n,.sl 2 (Rw N7 l.t),.int .i64 l.k,.bool l.e,.str s,.sl 7 (Rw C1 ks)])).set j (.box [.int .i64 o,.int .i64 n,.sl 2 (Rw N7 l.t),.int .i64 l.k,.bool l.e,.str s,.sl 7 (Rw C1 ks)])):=(A0 z).trans (A0 (by simp only[A6];exact r));generalize (H.set g (.box [.int .i64 o,.int .i64 n,.sl 2 (Rw N7 l.t),.int .i64 l.k,.bool l.e,.str s,.sl 7 (Rw C1 ks)])).set j (.box [.int .i64 o,.int .i64 n,.sl 2 (Rw N7 l.t),.int .i64 l.k,.bool l.e,.str s,.sl 7 (Rw C1 ks)])=Bs at e2 e3 p⊢;have A:g∈[g,j]:=by simp
 have C:j∈[g,j]:=by simp
 have hc: ∀{Q:D→Heap→Prop} (H:Heap) (h:Q (.bool true) H),E3 60 [.agg [.sl 2 (Rw N7 l.t),.int .i64 l.k,.bool l.e],.agg [.sl 2 (Rw N7 l.t),.int .i64 l.k,.bool l.e]] H Q:=fun H h=>B9f l hl H h;repeat' (first|simp only[go_sem,seval,e2,e3]|with_reducible refine hc _ ?_)
 refine C9 [2,3,44] (fun(i:Nat)=>[(45,.int .i64 i)]) (fun(i:Nat)=>Bs) (fun(i:Nat)=>i≤ks.length) (fun(i:Nat)=>ks.length-i) (0) (D0t _) (by(try simp only[go_sem,seval])<;>(try simp(disch:=omega) [A5])) (by first|exact D1z _|exact A0 (by assumption)|exact B3 (by assumption)|simp only[Heap.Le,Heap.set,Heap.del]at* <;>grind) ?_;rintro J rfl i L;by_cases d:i<ks.length
 ·have m:decide ((i:Int)<ks.length)=true:=D0a (by omega);have q:(i:Int)<ks.length:=by omega
  have u: ∀{Q:D→Heap→Prop} (H:Heap) (h:Q (.bool true) H),E3 21 [.agg (C1 ks[i]),.agg (C1 ks[i])] H Q:=y ks[i] (D0m d);repeat' simp only[go_sem,seval,m,q,B2 _ _ d,C2 _ _ d]
  refine F5 (fun G=>if G=10 then .bool true else .undef) [g,j] ?_;repeat' (first|with_reducible apply D0Y|simp only[go_sem,seval,m,q,B2 _ _ d,C2 _ _ d,e2,e3,A,C]|simp(disch:=omega) only[A5,B2,C3]|with_reducible refine R6 (fun H' Q hro hq=>u H' hq) ?_|omega)
  exact C4 (i+1) (by omega) (by omega) (by(try simp only[go_sem,seval])<;>(try simp(disch:=omega) [A5])) (by simp only[D9,D2,D3]at* <;>grind)
 ·have m:decide ((i:Int)<ks.length)=false:=D0b (by omega);repeat' simp only[go_sem,seval,m]
  exact D10 p h
theorem C0G{Q}(l:List VlV)(j:A7M l)(H:Heap)(h:Q (.bool true) H):E3 35 [.sl 2 (Rw vlC l),.sl 2 (Rw vlC l)] H Q:=by
 refine A9 [(6,.par)] A8 Tryz.func35 rfl ?_;simp only[go_sem,seval,Tryz.results35];have hlen:=j.len;refine C9 [0,1,12] (fun(i:Nat)=>[(13,.int .i64 i)]) (fun(i:Nat)=>H) (fun(i:Nat)=>i≤l.length) (fun(i:Nat)=>l.length-i) (0) (D0t _) (by(try simp only[go_sem,seval])<;>(try simp(disch:=omega) [A5])) (by first|exact D1z _|exact A0 (by assumption)|exact B3 (by assumption)|simp only[Heap.Le,Heap.set,Heap.del]at* <;>grind) ?_;rintro m rfl i o;by_cases d:i<l.length
 ·have e:decide ((i:Int)<l.length)=true:=D0a (by omega);have g:(i:Int)<l.length:=by omega
  repeat' simp only[go_sem,seval,e,g,B2 _ _ d,C2 _ _ d]
  refine F5 (fun p=>.undef) [] ?_;repeat' (first|with_reducible apply D0Y|simp only[go_sem,seval,e,g,B2 _ _ d,C2 _ _ d]|simp(disch:=omega) only[A5,B2,C3]|omega)
  exact C4 (i+1) (by omega) (by omega) (by(try simp only[go_sem,seval])<;>(try simp(disch:=omega) [A5])) (by simp only[D9,D2,D3]at* <;>grind)
 ·have e:decide ((i:Int)<l.length)=false:=D0b (by omega);repeat' simp only[go_sem,seval,e]
  exact D13 h
end Go.Proofs.YtibphjonmikciaaGreatDoor
namespace Go.Fo
open Go Go.Av Go.Lexs Go.Lin
theorem RdS.same{H H':Heap}{br:Nat}{r:List UInt8}{bad:Bool}(h:RdS H H' br r bad)(hb:H br=some (.box [.str (S r),.bool bad])):H'=H:=by
 funext k
 by_cases e:k=br
 ·rw[e,h.here,hb]
 ·exact h.els k e
theorem A1b{H i H':Heap}{br d:Nat}{r:List UInt8}{bad:Bool}(s:RdS i H' br r bad)(g:(H.del br).Le i)(j:H d=none)(h:br≠d)(V:Av.Obj):(H.set br (.box [.str (S r),.bool bad])).Le (H'.set d V):=fun k o hk=>by
 by_cases e:k=br
 ·subst e;rw[A3]at hk;rw[A4 _ h,s.here];exact hk
 ·rw[A4 _ e]at hk;have m:k≠d:=fun e=>by rw[e,j]at hk;cases hk
  rw[A4 _ m,s.els k e];exact g k o (by rw[D4 e];exact hk)
theorem C0H{H i H':Heap}{br g x:Nat}{r:List UInt8}{bad:Bool}(s:RdS i H' br r bad)(d:(H.del br).Le i)(p:H g=none)(h:br≠g)(hx:H' x=none)(o1 V:Av.Obj):(H.set br (.box [.str (S r),.bool bad])).Le (((H'.set x o1).set g V).del x):=fun k o hk=>by
 have h1:=A1b s d p h V k o hk;have j:k≠x:=fun e=>by
  by_cases e2:k=br
  ·rw[←e,e2,s.here]at hx;cases hx
  ·rw[A4 _ e2]at hk;have:=d k o (by rw[D4 e2];exact hk);rw[←s.els k e2,e,hx]at this;cases this
 rw[D4 j];by_cases m:k=g
 ·subst m;rw[A3]at h1⊢;exact h1
 ·rw[A4 _ m]at h1⊢;rw[A4 _ j];exact h1
theorem A71(r:List UInt8):Q5 r=r.drop (L5 r).length:=by
 have h:L5 r++Q5 r=r:=List.takeWhile_append_dropWhile
 conv=>rhs;rw[←h]
 rw[List.drop_left' (by rw[h])]
theorem B4y{d:List UInt8→Fm×List UInt8×Bool}(g: ∀r,∃j,(d r).2.1=r.drop j): ∀n r out,∃j,(A07 d n r out).2.1=r.drop j:=by
 intro n
 induction n with
 |zero=>intro r out;exact⟨0,rfl⟩
 |succ n h=>
  intro r out;obtain⟨j,e⟩:=g r;rw[A07];split
  ·exact⟨j+1,by show (d r).2.1.drop 1=_;rw[e,D1i]⟩
  ·split
   ·exact⟨j,e⟩
   ·split
    ·obtain⟨k,hk⟩:=h ((d r).2.1.drop 2) (out++[(d r).1]);exact⟨j+(2+k),by rw[hk,e,D1i,D1i]⟩
    ·exact⟨j,e⟩
theorem B4z: ∀e r,∃j,(G5 e r).2.1=r.drop j:=by
 intro e
 induction e with
 |zero=>intro r;exact⟨0,rfl⟩
 |succ e g=>
  intro r;have hl: ∀k,∃j,(Y1 (G5 e) (r.drop k)).2.1=r.drop j:=fun k=>by
   unfold Y1;split
   ·exact⟨k+1,by show (r.drop k).drop 1=_;rw[D1i]⟩
   ·obtain⟨j,d⟩:=B4y g ((r.drop k).length+1) (r.drop k) [];exact⟨k+j,by rw[d,D1i]⟩
  rw[G5];split
  ·exact⟨1+(L5 (r.drop 1)).length,by show Q5 (r.drop 1)=_;rw[A71,D1i]⟩
  ·split
   ·obtain⟨j,d⟩:=g (r.drop 1);exact⟨1+j,by show (G5 e (r.drop 1)).2.1=_;rw[d,D1i]⟩
   ·split
    ·exact hl 2
    ·split
     ·exact hl 2
     ·exact⟨_,A71 r⟩
end Go.Fo
namespace Go.Proofs.YtibphjonmikciaaGreatDoor
open Go Go.Av Go.Lexs Go.Lin Go.Fo
attribute [local irreducible] ACalls S9
theorem A9C(w:List UInt8)(l:List UInt8):(S w=⟨l.toArray⟩)=(w=l):=propext ⟨fun h=>C5d h,fun h=>by rw[h];rfl⟩
theorem C33:A7x 0:=by
 intro Q br r hr hx H u hb h;have p:((61:Int)-(0:Nat))=61:=by omega
 rw[p];refine A9 [] A8 Tryz.func71 rfl ?_;simp only[go_sem,seval,Tryz.results71];intro g j;have i:br≠g:=fun e=>by rw[←e,hb]at j;cases j
 have m:(H.set g (.box [.int .i64 0,.int .i64 0,.nilsl,.int .i64 0,.bool false,.str ⟨#[]⟩,.nilsl])) br=some (.box [.str (S r),.bool false]):=by rw[A4 _ i];exact hb
 have o:(H.set g (.box [.int .i64 0,.int .i64 0,.nilsl,.int .i64 0,.bool false,.str ⟨#[]⟩,.nilsl])) g=some (.box [.int .i64 0,.int .i64 0,.nilsl,.int .i64 0,.bool false,.str ⟨#[]⟩,.nilsl]):=A3 _ _;have d:(H.del br).Le (H.set g (.box [.int .i64 0,.int .i64 0,.nilsl,.int .i64 0,.bool false,.str ⟨#[]⟩,.nilsl])):=(E9 _ _).trans (A0 j);generalize H.set g (.box [.int .i64 0,.int .i64 0,.nilsl,.int .i64 0,.bool false,.str ⟨#[]⟩,.nilsl])=Bs at m o d⊢;have q:(Bs.set br (.box [.str (S r),.bool true])) g=some (.box [.int .i64 0,.int .i64 0,.nilsl,.int .i64 0,.bool false,.str ⟨#[]⟩,.nilsl]):=by rw[A4 _ i.symm];exact o
 repeat' simp only[go_sem,seval,m,q]
 exact D7 (A4Z 0 0 0 false D8) (D10 (A1b (RdS.set Bs br r true) d j i _) (h _ (RdS.set _ _ _ _)))
set_option maxHeartbeats 4000000 in
theorem C34(e:Nat)(he:e+1≤60)(hF:A7x e):A7x (e+1):=by
 intro Q br r hr hx H hT hb h;obtain⟨dp,c0⟩: ∃dp:Int,dp=61-((e+1:Nat):Int):=⟨_,rfl⟩
 have c7:1≤dp:=by omega
 have c8:dp≤60:=by omega
 have T:IntKind.i64.wrap (dp+1)=61-(e:Int):=by rw[A5 (by omega) (by omega)];omega
 rw[←c0];refine A9 [] A8 Tryz.func71 rfl ?_;simp only[go_sem,seval,Tryz.results71];intro m y;have d:br≠m:=fun e=>by rw[←e,hb]at y;cases y
 obtain⟨Z,hZ⟩: ∃Z:List D,Z= [.int .i64 0,.int .i64 0,.nilsl,.int .i64 0,.bool false,.str ⟨#[]⟩,.nilsl]:=⟨_,rfl⟩
 rw[←hZ];have e4:(H.set m (.box Z)) m=some (.box Z):=A3 _ _;have z:(H.set m (.box Z)) br=some (.box [.str (S r),.bool false]):=by rw[A4 _ d];exact hb
 have a4:H.Le (H.set m (.box Z)):=A0 y;have g:(H.del br).Le (H.set m (.box Z)):=(E9 _ _).trans a4;generalize H.set m (.box Z)=Bs at e4 z a4 g⊢;have U:(H.del br) br=none:=by simp[Heap.del]
 have tb: ∀{Hx:Heap} {r':List UInt8} {bd:Bool},RdS Bs Hx br r' bd→Tabs Hx:=fun s=>hT.rd hb (s.le g U);have a5:B (⟨#[63]⟩:ByteArray)= [63]:=rfl;have a6:B (⟨#[33]⟩:ByteArray)= [33]:=rfl;have a9:B (⟨#[38,40]⟩:ByteArray)= [38,40]:=rfl;have M:B (⟨#[124,40]⟩:ByteArray)= [124,40]:=rfl;have c1:(⟨#[63]⟩:ByteArray).size=1:=rfl;have c2:(⟨#[33]⟩:ByteArray).size=1:=rfl;have c3:(⟨#[38,40]⟩:ByteArray).size=2:=rfl;have b0:(⟨#[124,40]⟩:ByteArray).size=2:=rfl;have c4: ¬60<dp:=by omega
 have O:=fun(r:List UInt8) (_:r.length≤20000)=>B4z e r;rw[G5]at h;repeat' (first|with_reducible apply D0Y|simp only[go_sem,seval,z,c4])
 refine A3E br ⟨#[63]⟩ r false Bs z fun H1 G=>?_;rw[a5,c1]at G;rw[a5];cases p1:pre [63] r with
 |true=>
  rw[p1]at h G;simp only[if_true]at h G;repeat' simp only[go_sem,seval]
  refine B3i br (r.drop 1) false (by rw[D06];omega) (hx 1) H1 G.here fun H2 p=>?_;have b1:=G.trans p;have i:=b1.keep e4 d.symm;rw[hZ]at i;repeat' simp only[go_sem,seval,i]
  exact D7 (A4Z 3 0 0 false _) (D10 (A1b b1 g y d _) (h _ (RdS.set _ _ _ _)))
 |false=>
  rw[p1]at h G;simp only[D0o,if_false]at h G;have hs:=G.same z;subst hs;clear G;repeat' simp only[go_sem,seval]
  refine A3E br ⟨#[33]⟩ r false _ z fun H2 p=>?_;rw[a6,c2]at p;rw[a6];cases p2:pre [33] r with
  |true=>
   rw[p2]at h p;simp only[if_true]at h p;repeat' simp only[go_sem,seval,T]
   refine hF _ br (r.drop 1) (by rw[D06];omega) (A2d hx 1) H2 (tb p) p.here fun H3 q=>?_;have b2:=p.trans q;have i:=b2.keep e4 d.symm;rw[hZ]at i;repeat' (first|simp only[go_sem,seval,i]|simp(disch:=first|omega|grind) only[B4]|intro j)
   rename_i x;have V:=j;clear j;refine A8u (ob:=some x) (ks:=[(G5 e (r.drop 1)).1]) rfl (?_:(Heap.set _ m _) x=_) (D10 (C0H b2 g y d V _ _) (h _ (RdS.set _ _ _ _)));have c5:x≠m:=fun e=>by rw[e,i]at V;cases V
   rw[A4 _ c5];exact A3 _ _
  |false=>
   rw[p2]at h p;simp only[D0o,if_false]at h p;have hs:=p.same z;subst hs;clear p;repeat' simp only[go_sem,seval]
   refine A3E br ⟨#[38,40]⟩ r false _ z fun H3 q=>?_;rw[a9,c3]at q;rw[a9];cases p3:pre [38,40] r with
   |true=>
    rw[p3]at h q;simp only[if_true]at h q;repeat' simp only[go_sem,seval,T]
    refine B7h e (by omega) hF br (r.drop 2) (by rw[D06];omega) (A2d hx 2) H3 (tb q) q.here O fun H4 u=>?_;have b3:=q.trans u;have i:=b3.keep e4 d.symm;rw[hZ]at i;repeat' simp only[go_sem,seval,i]
    exact D7 (B2B 5 0 0 false D8 _) (D10 (A1b b3 g y d _) (h _ (RdS.set _ _ _ _)))
   |false=>
    rw[p3]at h q;simp only[D0o,if_false]at h q;have hs:=q.same z;subst hs;clear q;repeat' simp only[go_sem,seval]
    refine A3E br ⟨#[124,40]⟩ r false _ z fun H4 u=>?_;rw[M,b0]at u;rw[M];cases p4:pre [124,40] r with
    |true=>
     rw[p4]at h u;simp only[if_true]at h u;repeat' simp only[go_sem,seval,T]
     refine B7h e (by omega) hF br (r.drop 2) (by rw[D06];omega) (A2d hx 2) H4 (tb u) u.here O fun H5 C=>?_;have b7:=u.trans C;have i:=b7.keep e4 d.symm;rw[hZ]at i;repeat' simp only[go_sem,seval,i]
     exact D7 (B2B 6 0 0 false D8 _) (D10 (A1b b7 g y d _) (h _ (RdS.set _ _ _ _)))
    |false=>
     rw[p4]at h u;simp only[D0o,if_false]at h u;have hs:=u.same z;subst hs;clear u;repeat' simp only[go_sem,seval]
     have b8:=hx 0;rw[List.drop_zero]at b8;refine B3i br r false (by omega) b8 _ z fun H5 C=>?_;have i:=C.keep e4 d.symm;rw[hZ]at i;have c9:=A6i r;unfold A63 at h;by_cases w1:L5 r=A06
     ·rw[if_pos w1]at h;have I:L5 r= [116,114,117,101]:=w1;repeat' simp only[go_sem,seval,i,A9C,I]
      exact D7 (A4Z 1 1 0 false D8) (D10 (A1b C g y d _) (h _ (RdS.set _ _ _ _)))
     ·rw[if_neg w1]at h;have I: ¬L5 r= [116,114,117,101]:=w1;by_cases w2:L5 r=flsB
      ·rw[if_pos w2]at h;have J:L5 r= [102,97,108,115,101]:=w2;have c6: ¬([102,97,108,115,101]:List UInt8)= [116,114,117,101]:=by decide
       repeat' simp only[go_sem,seval,i,A9C,J,c6]
       exact D7 (A4Z 1 0 0 false D8) (D10 (A1b C g y d _) (h _ (RdS.set _ _ _ _)))
      ·rw[if_neg w2]at h;have J: ¬L5 r= [102,97,108,115,101]:=w2;obtain⟨⟨L,er⟩,b9⟩: ∃x,x=M5 (L5 r):=⟨_,rfl⟩
       have pc:=fun(Q:D→Heap→Prop) (H:Heap) (hT:Tabs H)=>B9l (Q:=Q) (S (L5 r)) (by rw[O6];omega) H hT;rw[t7,←b9]at pc;rw[←b9]at h;simp only at h pc;have r5:=C.here;by_cases e0:er=0
       ·have W:decide (er≠0)=false:=by simp[e0]
        rw[W]at h;repeat' (first|simp only[go_sem,seval,i,A9C,I,J,r5,e0]|simp(disch:=first|omega|grind) only[B4]|intro j|with_reducible refine pc _ _ (tb C) ?_)
        rename_i b6;have X:=j;clear j;have Y:m≠b6:=fun e=>by rw[←e,i]at X;cases X
        have s6:=RdS.set (H5.set b6 (.box [.sl 2 (Rw N7 L.t),.int .i64 L.k,.bool L.e])) br (Q5 r) false;have a0:=s6.keep (b:=m) (by rw[A4 _ Y];exact i) d.symm;have A:=(C.le g U).trans (A0 (o:=.box [.sl 2 (Rw N7 L.t),.int .i64 L.k,.bool L.e]) X);repeat' (first|simp only[go_sem,seval,a0]|with_reducible refine A4c L _ ?_)
        exact D10 (A1b s6 A y d _) (h _ (RdS.set _ _ _ _))
       ·have W:decide (er≠0)=true:=by simp[e0]
        rw[W]at h;repeat' (first|simp only[go_sem,seval,i,A9C,I,J,r5,e0]|simp(disch:=first|omega|grind) only[B4]|intro j|with_reducible refine pc _ _ (tb C) ?_)
        rename_i b6;have X:=j;clear j;have Y:m≠b6:=fun e=>by rw[←e,i]at X;cases X
        have s6:=RdS.set (H5.set b6 (.box [.sl 2 (Rw N7 L.t),.int .i64 L.k,.bool L.e])) br (Q5 r) true;have a0:=s6.keep (b:=m) (by rw[A4 _ Y];exact i) d.symm;have A:=(C.le g U).trans (A0 (o:=.box [.sl 2 (Rw N7 L.t),.int .i64 L.k,.bool L.e]) X);repeat' (first|simp only[go_sem,seval,a0]|with_reducible refine A4c L _ ?_)
        exact D10 (A1b s6 A y d _) (h _ (RdS.set _ _ _ _))
theorem C35: ∀e,e≤60→A7x e:=by
 intro e
 induction e with
 |zero=>intro _;exact C33
 |succ e d=>intro he;exact C34 e he (d (by omega))
theorem A3u(n:Int):NilR (.tuple [.agg [.int .i64 0,.int .i64 0,.nilsl,.int .i64 0,.bool false,.str ⟨#[]⟩,.nilsl],.int .i64 n]) (.tuple [.agg (C1 zeroF),.int .i64 n]):=B6r (A4Z 0 0 0 false D8)
theorem B1E{Q}(s:ByteArray)(hx:s.size≤20000→∀k,A6f ((B s).drop k))(H:Heap)(p:Tabs H)(h:Q (.tuple [.agg (C1 (A3C (B s)).1),.int .i64 (A3C (B s)).2]) H):E3 29 [.str s] H Q:=by
 refine A9 [] A8 Tryz.func29 rfl ?_;simp only[go_sem,seval,Tryz.results29];have a0:=T9 s;intro o q;obtain⟨Z,r⟩: ∃Z:List D,Z= [.int .i64 0,.int .i64 0,.nilsl,.int .i64 0,.bool false,.str ⟨#[]⟩,.nilsl]:=⟨_,rfl⟩
 rw[←r];have e2:(H.set o (.box Z)) o=some (.box Z):=A3 _ _;have i:H.Le (H.set o (.box Z)):=A0 q;generalize H.set o (.box Z)=Bs at e2 i⊢;have a4:=p.le i;unfold A3C at h;by_cases hl:(B s).length > 20000
 ·rw[if_pos hl]at h;have T:(20000:Int)<s.size:=by omega
  subst r;repeat' (first|with_reducible apply D0Y|simp only[go_sem,seval,T,e2])
  exact D7 (A3u 3) (D10 (by first|exact i|exact G6 i q) h)
 ·rw[if_neg hl]at h;have T: ¬(20000:Int)<s.size:=by omega
  have U:=C35 60 (by omega);unfold A7x at U;rw[show ((61:Int)-(60:Nat))=1 by omega]at U;have hsz:=(B05 60 (B s) (by omega))
  repeat' (first|with_reducible apply D0Y|simp only[go_sem,seval,T]|intro j)
  rename_i br;have hr:=j;clear j;have Y:(Bs.set br (.box [.str s,.bool false])) br=some (.box [.str (S (B s)),.bool false]):=by rw[A3,S_B]
  have nr:o≠br:=fun e=>by rw[←e,e2]at hr;cases hr
  have m:H.Le (Bs.set br (.box [.str s,.bool false])):=i.trans (A0 hr);have C:(Bs.set br (.box [.str s,.bool false])) o=some (.box Z):=by rw[A4 _ nr];exact e2
  have V:H br=none:=i.none hr;generalize Bs.set br (.box [.str s,.bool false])=Cs at Y C m⊢;refine U _ br (B s) (by omega) (hx (by omega)) _ (p.le m) Y fun G I=>?_;obtain⟨⟨f1,r1,bad⟩,W⟩: ∃x,x=G5 60 (B s):=⟨_,rfl⟩
  rw[←W]at h hsz I⊢;simp only at h hsz I⊢;have J:=I.keep C nr;have L:=I.le m V;have g:=I.here;repeat' (first|simp only[go_sem,seval]|simp(disch:=first|omega|grind) only[B4]|intro j)
  rename_i b5;have h5:=j;clear j;have n5:br≠b5∧o≠b5:=⟨fun e=>(by rw[←e,g]at h5;cases h5),fun e=>(by rw[←e,J]at h5;cases h5)⟩
  have M:(G.set b5 (.box (C1 f1))) b5=some (.box (C1 f1)):=A3 _ _;have u:(G.set b5 (.box (C1 f1))) br=some (.box [.str (S r1),.bool bad]):=by rw[A4 _ n5.1];exact g
  have A:(G.set b5 (.box (C1 f1))) o=some (.box Z):=by rw[A4 _ n5.2];exact J
  have d:H.Le (G.set b5 (.box (C1 f1))):=L.trans (A0 h5);generalize G.set b5 (.box (C1 f1))=Ds at M u A d⊢;cases bad with
  |true=>
   simp only[true_or,if_true]at h;subst r;repeat' simp only[go_sem,seval,g,u,A]
   exact D7 (A3u 30) (D10 (by first|exact d|exact G6 d q) h)
  |false=>
   by_cases y:r1= []
   ·rw[y]at h u g;simp only[D0o,ne_eq,not_true,or_self,if_false]at h;unfold okF at h;have fo:=hsz.2.fit;have vo:VOk f1:=.inl (by have:=hsz.2.wt;omega);have z:=fun(Q:D→Heap→Prop) (H:Heap) (p:Tabs H)=>A88 (Q:=Q) f1 fo vo H p;have X:S []=⟨#[]⟩:=rfl;cases hv:E6 f1 with
    |false=>
     rw[hv]at h z;simp only[D0o,false_and,if_false]at h z;subst r;repeat' (first|simp only[go_sem,seval,g,u,A,M,X]|with_reducible refine z _ _ (p.le d) ?_)
     exact D7 (A3u 30) (D10 (by first|exact d|exact G6 d q) h)
    |true=>
     rw[hv]at h z;simp only[true_and,if_true]at h z;by_cases O:E8 f1=B s
     ·rw[if_pos O]at h;subst r;repeat' (first|simp only[go_sem,seval,g,u,A,M,X,O]|with_reducible refine z _ _ (p.le d) ?_)
      exact D10 (G6 d q) h
     ·rw[if_neg O]at h;subst r;repeat' (first|simp only[go_sem,seval,g,u,A,M,X,O]|with_reducible refine z _ _ (p.le d) ?_)
      exact D7 (A3u 30) (D10 (by first|exact d|exact G6 d q) h)
   ·rw[if_pos (.inr y)]at h;subst r;repeat' simp only[go_sem,seval,g,u,A,y]
    exact D7 (A3u 30) (D10 (by first|exact d|exact G6 d q) h)
end Go.Proofs.YtibphjonmikciaaGreatDoor
namespace Go.Fo
open Go Go.Av Go.Lexs Go.Lin
theorem B7x(l:List Fm)(p:Fm→Bool):(l.any fun f=> !p f)= !l.all p:=by
 induction l with
 |nil=>rfl
 |cons x l d=>rw[D1d,D1b,d,Bool.not_and]
theorem C0I{Q:D→Heap→Prop}{H:Heap}{n:Nat}{ob:Option Nat}{o m k x:Int}{e:Bool}{s:ByteArray}{ks:List Fm}(hn:n=ks.length)(ho:OutAt H 7 (Rw C1 ks) ob)(h:Fin Q (.tuple [.agg (C1 (.mk o m ⟨[],k,e⟩ s ks)),.int .i64 x]) (K1 H ob)):
  Fin Q (.tuple [.agg [.int .i64 o,.int .i64 m,.nilsl,.int .i64 k,.bool e,.str s,J1 7 n ob],.int .i64 x]) H:=by
 rw[W9]at h;cases ob with
 |none=>
  have d:Rw C1 ks= []:=ho;refine D7 ?_ h;rw[d];exact B6r (A8t (.nil 2) (.nil 7))
 |some b=>
  have hb:H b=some (.vec 7 (Rw C1 ks)):=ho;subst hn;refine A46 (cs':=[.int .i64 o,.int .i64 m,.sl 2 [],.int .i64 k,.bool e,.str s,.sl 7 (Rw C1 ks)]) hb rfl (fz7 (.nil 2) ?_) h;show Fz b 7 (Rw C1 ks) (.vec b 7 0 ks.length) _;have:=Fz.all (b:=b) (sz:=7) (es:=Rw C1 ks);rwa [D6]at this
end Go.Fo
namespace Go.Proofs.YtibphjonmikciaaGreatDoor
open Go Go.Av Go.Lexs Go.Lin Go.Fo
attribute [local irreducible] ACalls S9
theorem C0J{Q}(f:Fm)(g:FmFit f)(i:VOk f)(H:Heap)(h:Q (.bool (!E6 f)) H):E3 113 [.agg (C1 f)] H Q:=by
 refine A9 [] A8 Tryz.func113 rfl ?_;simp only[go_sem,seval,Tryz.results113];intro e h1;have e1:(H.set e (.box (C1 f))) e=some (.box (C1 f)):=A3 _ _;have d:H.Le (H.set e (.box (C1 f))):=A0 h1;generalize H.set e (.box (C1 f))=Bs at e1 d⊢;repeat' (first|simp only[go_sem,seval,e1]|with_reducible refine R4 f g i _ ?_)
 exact D10 d h
theorem B7y{Q}(o:Int)(ho:o=5∨o=6)(l:List Fm)(fl: ∀f∈l,FmFit f)(hlen:l.length≤1466015503658)(vl: ∀f∈l,VOk f)(hw:l.all E6=true→J0.wtL l≤900000)(H:Heap)(h:Q (.tuple [.agg (C1 (bothF o l).1),.int .i64 (bothF o l).2]) H):E3 67 [.int .i64 o,.sl 7 (Rw C1 l)] H Q:=by
 refine A9 [(9,.par)] A8 Tryz.func67 rfl ?_;simp only[go_sem,seval,Tryz.results67];intro y g4;obtain⟨Z,U⟩: ∃Z:List D,Z= [.int .i64 0,.int .i64 0,.nilsl,.int .i64 0,.bool false,.str ⟨#[]⟩,.nilsl]:=⟨_,rfl⟩
 rw[←U];have M:(H.set y (.box Z)) y=some (.box Z):=A3 _ _;have z:H.Le (H.set y (.box Z)):=A0 g4;generalize H.set y (.box Z)=Bs at M z⊢;have V: ∀x,H.Le (Bs.set y x):=fun x=>G6 z g4;have T:=fun(Q:D→Heap→Prop) (H:Heap)=>A8y (Q:=Q) (fun f=> !E6 f) l (by omega) 113 [] [] H (fun k hk _ Q hq=>C0J l[k] (fl _ (D0m hk)) (vl _ (D0m hk)) H hq);rw[B7x]at T;unfold bothF at h;cases hv:l.all E6 with
 |false=>
  rw[hv]at h T;simp only[D0o,if_false]at h;rw[U]at M;repeat' (first|simp only[go_sem,seval,M]|with_reducible refine T _ _ ?_)
  exact D7 (A0m 2) (D10 (V _) h)
 |true=>
  rw[hv]at h T;simp only[if_true]at h;have hw:=hw hv;have nc:=fun(Q:D→Heap→Prop) (H:Heap)=>A81 (Q:=Q) l fl hlen H;have W:=fun(Q:D→Heap→Prop) (H:Heap)=>B2T (Q:=Q) (J5 (D5.intsL l)) (J5 (C7.boolsL l)) H;rw[A0I (l':=D5.intsL l) (m':=C7.boolsL l) (fun x=>G3 _ _) (fun x=>G3 _ _)]at W;cases hm:meetL (D5.intsL l) (C7.boolsL l)with
  |true=>
   rw[hm]at h W;simp only[if_true]at h;rw[U]at M;repeat' (first|simp only[go_sem,seval,M]|with_reducible refine T _ _ ?_|with_reducible refine nc _ _ ?_|with_reducible refine W _ _ ?_)
   exact D7 (A0m 15) (D10 (V _) h)
  |false=>
   rw[hm]at h W;simp only[D0o,if_false]at h;repeat' (first|simp only[go_sem,seval]|(intro g;try simp only[A6]at g)|with_reducible refine T _ _ ?_|with_reducible refine nc _ _ ?_|with_reducible refine W _ _ ?_)
   rename_i r;have h6:=g;clear g;have X:y≠r:=fun e=>by rw[←e,M]at h6;cases h6
   have c6:(Bs.set r (.box [.int .i64 o,.int .i64 0,.nilsl,.int .i64 0,.bool false,.str ⟨#[]⟩,.nilsl])) r=some (.box [.int .i64 o,.int .i64 0,.nilsl,.int .i64 0,.bool false,.str ⟨#[]⟩,.nilsl]):=A3 _ _;have c4:(Bs.set r (.box [.int .i64 o,.int .i64 0,.nilsl,.int .i64 0,.bool false,.str ⟨#[]⟩,.nilsl])) y=some (.box Z):=by rw[A4 _ X];exact M
   have u:H.Le (Bs.set r (.box [.int .i64 o,.int .i64 0,.nilsl,.int .i64 0,.bool false,.str ⟨#[]⟩,.nilsl])):=z.trans (A0 h6);have Y:H r=none:=z.none h6;generalize Bs.set r (.box [.int .i64 o,.int .i64 0,.nilsl,.int .i64 0,.bool false,.str ⟨#[]⟩,.nilsl])=Cs at c6 c4 u⊢;refine C9 [4,6,20,21] (fun(p:Nat×Option Nat×Heap)=>[(22,.int .i64 p.1)]) (fun(p:Nat×Option Nat×Heap)=>p.2.2) (fun(p:Nat×Option Nat×Heap)=>p.1≤l.length∧AH 7 Cs r (fun x=>[.int .i64 o,.int .i64 0,.nilsl,.int .i64 0,.bool false,.str ⟨#[]⟩,x]) (Rw C1 (l.take p.1)) p.1 p.2.1 p.2.2) (fun(p:Nat×Option Nat×Heap)=>l.length-p.1) ((0,none,Cs)) (⟨D0t _,A1B c6⟩) (by(try simp only[go_sem,seval])<;>(try simp(disch:=omega) [A5])) (by first|exact D1z _|exact A0 (by assumption)|exact B3 (by assumption)|simp only[Heap.Le,Heap.set,Heap.del]at* <;>grind) ?_;rintro Ec rfl ⟨i,ob,Hp⟩ ⟨hi,A⟩;simp only at hi A;by_cases C:i<l.length
   ·have G:decide ((i:Int)<l.length)=true:=D0a (by omega);have b0:(i:Int)<l.length:=by omega
    have b1:=D0m C;repeat' (first|with_reducible apply D0Y|simp only[go_sem,seval,G,b0,B2 _ _ C,C2 _ _ C]|(intro g;try simp only[A6]at g)|omega)
    rename_i L;have h8:=g;clear g;obtain⟨d1,d7,dO,dN⟩:=A.at7 h8 (.box (C1 l[i]));refine F5 (fun i'=>.agg (C1 l[i])) [r,L] ?_;have m1:r∈[r,L]:=by simp
    have m7:L∈[r,L]:=by simp
    repeat' (first|simp only[go_sem,seval,d1,d7,m1,m7]|(intro g;try simp only[A6]at g)|with_reducible refine R6 (fun H' Q hro hq=>B3c l[i] (fl _ b1) H' hq) ?_)
    rename_i x;have hx:=g;clear g;obtain⟨a0,b2⟩:=hx;have I:(Hp.set L (.box (C1 l[i]))) x=none:=by rw[A4 _ a0];exact b2
    obtain⟨O,a4⟩:=A3m dO I (.vec 7 [C1 l[i]]);have b3:x∉[r,L]:=by
     simp only[D00,D01,or_false,not_or];exact⟨fun e=>(by rw[e,d1]at I;cases I),a0⟩
    have b7: ∀c,ob=some c→c∉[r,L]:=fun c e=>by
     simp only[D00,D01,or_false,not_or];exact⟨(A.fresh c e).2,dN c e⟩
    refine A6Q 28 96 (n:=i) (m:=1) (bx:=x) (ob:=ob) (es:=Rw C1 (l.take i)) (xs:=[C1 l[i]]) (by simp only[go_sem,seval]) (by decide) (by simp only[go_sem,seval]) (by simp only[go_sem,seval]) (by simp only[go_sem,seval]) (by simp only[go_sem,seval]) (A3 _ _) rfl (by simp) O (N0 _ _ (by omega)).symm b3 a4 b7 (by simp only[D0d,D0f];omega) (by simp only[D0d,D0f];omega) fun b' a5=>?_;rw[E7 I]at a5⊢;obtain⟨c1,b9,A'⟩:=A.step h8 _ a5 (C1 l[i]);revert A';generalize c0:((K1 (Hp.set L (.box (C1 l[i]))) ob).set b' (.vec 7 (Rw C1 (l.take i)++[C1 l[i]]))).set r (.box [.int .i64 o,.int .i64 0,.nilsl,.int .i64 0,.bool false,.str ⟨#[]⟩,.vec b' 7 0 (i+1)])=Hf;intro A';repeat' (first|simp only[go_sem,seval,b9,m1]|simp(disch:=omega) only[A5,B2,C3])
    exact C4 (i+1,some b',Hf) ⟨by simp only[];omega,by simp only[];rw[M9 l i C];exact A'⟩ (by simp only[];omega) (by(try simp only[go_sem,seval])<;>(try simp(disch:=omega) [A5])) (by rw[←c0];exact D1z _)
   ·have G:decide ((i:Int)<l.length)=false:=D0b (by omega);have a6:i=l.length:=by omega
    have J:=A.keep y _ X c4;rw[D0n (by omega)]at A;have A1:=A.box;have o1:=A4W 7 i ob;have fo:FmFit (.mk o 0 nilL D8 l):=P5 (by rcases ho with rfl|rfl<;>simp[U6]) hlen fl;have vo:VOk (.mk o 0 nilL D8 l):=.inl (by rw[K4];simp only[Fm.l,Fm.ks,nilL,D0f];omega);have vv: ∀Q:D→Heap→Prop,Q (.bool (E6 (.mk o 0 nilL D8 l))) Hp→E3 18 [.agg [.int .i64 o,.int .i64 0,.nilsl,.int .i64 0,.bool false,.str ⟨#[]⟩,J1 7 i ob]] Hp Q:=fun Q hq=>
     A3y (args':=[.agg (C1 (.mk o 0 nilL D8 l))]) rfl (fun j d d' h1 h2=>by
      match j with
      |0=>cases h1;cases h2;exact B9b a6 A.out
      |j+1=>cases h1) (R4 _ fo vo _ ⟨rfl,hq⟩)
    cases a9:E6 (.mk o 0 nilL D8 l)with
    |false=>
     rw[a9]at h vv;simp only[D0o,if_false]at h;rw[U]at J;repeat' (first|simp only[go_sem,seval,G,A1,J,o1]|with_reducible refine vv _ ?_)
     exact D7 (A0m 3) (D10 (fun k q hk=>by
      have k4:k≠y:=fun e=>by rw[e,g4]at hk;cases hk
      rw[A4 _ k4];have k6:k≠r:=fun e=>by rw[e,Y]at hk;cases hk
      exact A.keep k q k6 (u _ _ hk)) h)
    |true=>
     rw[a9]at h vv;simp only[if_true]at h;rw[U]at J;repeat' (first|with_reducible apply D0Y|simp only[go_sem,seval,G,A1,J,o1]|with_reducible refine vv _ ?_)
     exact C0I a6 (A.out2 c4 _) (D10 (A.le2 u Y g4 _) h)
theorem C1f{Q}(l:List Fm)(d: ∀f∈l,FmFit f)(hlen:l.length≤1466015503658)(e: ∀f∈l,VOk f)(hw:l.all E6=true→J0.wtL l≤900000)(H:Heap)(h:Q (.tuple [.agg (C1 (bothF 5 l).1),.int .i64 (bothF 5 l).2]) H):E3 24 [.sl 7 (Rw C1 l)] H Q:=by
 refine A9 [] A8 Tryz.func24 rfl ?_;simp only[go_sem,seval,Tryz.results24];repeat' (first|simp only[go_sem,seval]|intro g|with_reducible refine B7y 5 (.inl rfl) l d hlen e hw _ ?_)
 exact D10 (A0 (by assumption)) h
theorem C65{Q}(l:List Fm)(d: ∀f∈l,FmFit f)(hlen:l.length≤1466015503658)(e: ∀f∈l,VOk f)(hw:l.all E6=true→J0.wtL l≤900000)(H:Heap)(h:Q (.tuple [.agg (C1 (bothF 6 l).1),.int .i64 (bothF 6 l).2]) H):E3 26 [.sl 7 (Rw C1 l)] H Q:=by
 refine A9 [] A8 Tryz.func26 rfl ?_;simp only[go_sem,seval,Tryz.results26];repeat' (first|simp only[go_sem,seval]|intro g|with_reducible refine B7y 6 (.inr rfl) l d hlen e hw _ ?_)
 exact D10 (A0 (by assumption)) h
end Go.Proofs.YtibphjonmikciaaGreatDoor
namespace Go.Fo
open Go Go.Av Go.Lexs Go.Lin
abbrev fxT:ByteArray:=⟨#[38,40,120,45,49,62,61,48,44,32,124,40,120,45,51,61,48,44,32,33,63,98,41,41]⟩
abbrev C66:ByteArray:=⟨#[124,40,45,120,62,61,48,44,32,38,40,124,40,120,45,52,62,61,48,44,32,45,120,43,50,62,61,48,41,44,32,63,98,41,41]⟩
abbrev C0K:ByteArray:=⟨#[120,62,61,48]⟩
def fxO:Fm:=.mk 6 0 nilL D8 []
theorem B70:S (E8 fxF)=fxT∧S (E8 fxN)=C66:=by rw[A84,B7b];exact⟨rfl,rfl⟩
theorem A72:A3C (B fxT)=(fxF,0)∧A3C (B C0K)=(fxP,0):=by
 have e1:B fxT=E8 fxF:=by rw[A84];rfl
 have e2:B C0K=E8 fxP:=by rw[B02];rfl
 rw[e1,e2];exact⟨A6Z Q7.1 (by rw[A84];decide),A6Z Q7.2.1 (by rw[B02];decide)⟩
theorem B2X:E6 fxP=true∧FmFit fxP∧VOk fxP:=⟨Q7.2.1,(X4 _ A19.2.1).2,.inl (by have:=B1A.2.1;omega)⟩
theorem A4h:E6 fxN=true∧FmFit fxN∧VOk fxN:=⟨Q7.2.2.1,(X4 _ A19.2.2.1).2,.inl (by have:=B1A.2.2.1;omega)⟩
theorem B2Y:E6 fxA=true∧FmFit fxA∧VOk fxA:=⟨Q7.2.2.2,(X4 _ A19.2.2.2.1).2,.inl (by have:=B1A.2.2.2;omega)⟩
theorem A6o:A7M fxVals:=⟨by decide,by decide+kernel,fun x hx=>by
 have key: ∀x∈fxVals,x.n.natAbs≤10:=by decide+kernel
 have:=key x hx;unfold U6;omega⟩
theorem C67:C1 fxO= [.int .i64 6,.int .i64 0,.sl 2 [],.int .i64 0,.bool false,.str D8,.sl 7 []]:=rfl
theorem B1F{s:ByteArray}(h:s.size≤1000)(d: ∀c∈B s,c.toNat<128):s.size≤20000→∀k,Go.Proofs.YtibphjonmikciaaGreatDoor.A6f ((B s).drop k):=fun _ k=>Go.Proofs.YtibphjonmikciaaGreatDoor.B2V (by rw[D06,T9];omega) fun c hc=>d c (List.mem_of_mem_drop hc)
end Go.Fo
namespace Go.Proofs.YtibphjonmikciaaGreatDoor
open Go Go.Av Go.Lexs Go.Lin Go.Fo
attribute [local irreducible] ACalls S9
theorem C68{Q}(H:Heap)(d:Tabs H)(h:Q (.tuple [.str fxT,.int .i64 0]) H):E3 27 [.agg (C1 fxF)] H Q:=
 A88 fxF K5.2.1 K5.2.2.1 H d (by rw[if_pos K5.1,if_pos K5.1,B70.1];exact h)
theorem C36{Q}(H:Heap)(d:Tabs H)(h:Q (.tuple [.str C66,.int .i64 0]) H):E3 27 [.agg (C1 fxN)] H Q:=
 A88 fxN A4h.2.1 A4h.2.2 H d (by rw[if_pos A4h.1,if_pos A4h.1,B70.2];exact h)
theorem C37{Q}(H:Heap)(d:Tabs H)(h:Q (.tuple [.agg (C1 fxF),.int .i64 0]) H):E3 29 [.str fxT] H Q:=
 B1E fxT (B1F (by decide) (by decide)) H d (by rw[A72.1];exact h)
theorem C0L{Q}(H:Heap)(d:Tabs H)(h:Q (.tuple [.agg (C1 fxP),.int .i64 0]) H):E3 29 [.str C0K] H Q:=
 B1E C0K (B1F (by decide) (by decide)) H d (by rw[A72.2];exact h)
theorem C9R{Q}(H:Heap)(h:Q (.tuple [.bool true,.int .i64 0]) H):E3 37 [.agg (C1 fxF),.agg (C1 fxP)] H Q:=
 B97 fxF fxP K5.2.1 B2X.2.1 K5.2.2.1 B2X.2.2 K5.1 B2X.1 A89.1 A89.2.1 false A4f.2.2.1 (X4 _ A19.2.2.2.2.2.2.2.1).1 H h
theorem C9S{Q}(H:Heap)(h:Q (.tuple [.agg (C1 fxN),.int .i64 0]) H):E3 16 [.agg (C1 fxF)] H Q:=
 C6z fxF K5.2.1 K5.2.2.1 H (by rw[C3t];exact h)
theorem C9T{Q}(H:Heap)(h:Q (.tuple [.bool true,.int .i64 0]) H):E3 31 [.agg (C1 fxF)] H Q:=
 B7l fxF K5.2.1 K5.2.2.1 K5.1 true A4f.1 H h
theorem C69{Q}(H:Heap)(h:Q (.tuple [.bool false,.int .i64 0]) H):E3 31 [.agg (C1 fxA)] H Q:=
 B7l fxA B2Y.2.1 B2Y.2.2 B2Y.1 false A4f.2.1 H h
theorem C9U{Q}(H:Heap)(h:Q (.tuple [.agg (C1 fxA),.int .i64 0]) H):E3 24 [.sl 7 (Rw C1 [fxF,fxN])] H Q:=
 C1f [fxF,fxN] (fun f d=>by simp only[D00,D01,or_false]at d;rcases d with rfl|rfl;exact K5.2.1;exact A4h.2.1) (by decide)
  (fun f d=>by simp only[D00,D01,or_false]at d;rcases d with rfl|rfl;exact K5.2.2.1;exact A4h.2.2) (fun _=>by have:=B1A;simp only[J0.wtL];omega) H (by rw[C3u];exact h)
theorem xOr{Q}(H:Heap)(h:Q (.tuple [.agg (C1 fxO),.int .i64 0]) H):E3 26 [.sl 7 []] H Q:=
 C65 [] (fun f d=>by cases d) (by decide) (fun f d=>by cases d) (fun _=>by simp only[J0.wtL];omega) H (by rw[C63];exact h)
theorem xAt{Q}(H:Heap)(h:Q (.tuple [.bool true,.int .i64 0]) H):E3 22 [.agg (C1 fxF),.sl 2 (Rw vlC fxVals)] H Q:=
 C9P fxF K5.2.1 K5.2.2.1 fxVals A6o H (by rw[C62];exact h)
theorem C7A{Q}(H:Heap)(h:Q (.tuple [.sl 1 (Rw K2 [nX]),.sl 1 (Rw K2 [nB]),.int .i64 0]) H):E3 14 [.agg (C1 fxF)] H Q:=
 C3r fxF K5.2.1 K5.2.2.1 H (by rw[if_pos K5.1,B3g.1,B3g.2];exact h)
theorem C7B{Q}(H:Heap)(h:Q (.tuple [.bool true,.int .i64 0]) H):E3 38 [.agg (C1 fxF),.agg (C1 fxF)] H Q:=
 B98 fxF K5.2.1 K5.2.2.1 K5.1 A89.2.2.1 A89.2.2.2 A4f.2.2.2.1 (X4 _ A19.2.2.2.2.2.2.2.2.1).1 H h
theorem C38{Q}(H:Heap)(h:Q (.bool true) H):E3 18 [.agg (C1 fxF)] H Q:=
 R4 fxF K5.2.1 K5.2.2.1 H (by rw[K5.1];exact h)
set_option maxHeartbeats 4000000 in
theorem B1G{Q}(H:Heap)(J:Tabs H)(h:Q (.bool true) H):E3 13 [] H Q:=by
 refine A9 [(15,.par)] A8 Tryz.func13 rfl ?_;simp only[go_sem,seval,Tryz.results13];have T:=D1z H;repeat' (first|simp only[go_sem,seval]|intro e|with_reducible refine A70 _ ?_|with_reducible refine C68 _ J ?_|with_reducible refine C37 _ J ?_)
 rename_i I;have U:=e;clear e;have d:(H.set I (.box (C1 fxF))) I=some (.box (C1 fxF)):=A3 _ _;have x:=T.trans (A0 (o:=.box (C1 fxF)) U);have V:=J.le x;generalize H.set I (.box (C1 fxF))=H1 at d x V⊢;clear U;repeat' (first|simp only[go_sem,seval,d]|simp(disch:=first|omega|grind) only[B4]|intro e|with_reducible refine B7n _ ?_|with_reducible refine C0L _ V ?_)
 rename_i b7;have L:=e;clear e;have i:(H1.set b7 (.box (C1 fxP))) b7=some (.box (C1 fxP)):=A3 _ _;have d:=(A0 (o:=.box (C1 fxP)) L) _ _ d;have y:=x.trans (A0 (o:=.box (C1 fxP)) L);have a0:=J.le y;generalize H1.set b7 (.box (C1 fxP))=H2 at d i y a0⊢;clear L;repeat' (first|simp only[go_sem,seval,d,i]|intro e|with_reducible refine C9R _ ?_|with_reducible refine C9S _ ?_)
 rename_i M;have u:=e;clear e;have g:(H2.set M (.box (C1 fxN))) M=some (.box (C1 fxN)):=A3 _ _;have d:=(A0 (o:=.box (C1 fxN)) u) _ _ d;have i:=(A0 (o:=.box (C1 fxN)) u) _ _ i;have z:=y.trans (A0 (o:=.box (C1 fxN)) u);have W:=J.le z;generalize H2.set M (.box (C1 fxN))=H3 at d i g z W⊢;clear u;repeat' (first|simp only[go_sem,seval,d,i,g]|intro e|with_reducible refine C36 _ W ?_|with_reducible refine C9T _ ?_)
 rename_i bx;have a4:=e;clear e;refine X5 (es:=Rw C1 [fxF,fxN]) a4 rfl ?_;repeat' (first|simp only[go_sem,seval,d,i,g]|intro e|with_reducible refine C9U _ ?_)
 rename_i O;have p:=e;clear e;have j:(H3.set O (.box (C1 fxA))) O=some (.box (C1 fxA)):=A3 _ _;have d:=(A0 (o:=.box (C1 fxA)) p) _ _ d;have i:=(A0 (o:=.box (C1 fxA)) p) _ _ i;have g:=(A0 (o:=.box (C1 fxA)) p) _ _ g;have A:=z.trans (A0 (o:=.box (C1 fxA)) p);have a5:=J.le A;generalize H3.set O (.box (C1 fxA))=H4 at d i g j A a5⊢;clear p;repeat' (first|simp only[go_sem,seval,d,i,g,j]|with_reducible refine C69 _ ?_|with_reducible refine xAt _ ?_|with_reducible refine C7A _ ?_|with_reducible refine C7B _ ?_)
 refine B1K 7 ?_;repeat' (first|simp only[go_sem,seval,d,i,g,j]|intro e|with_reducible refine xOr _ ?_)
 rename_i q;have m:=e;clear e;have r:(H4.set q (.box (C1 fxO))) q=some (.box (C1 fxO)):=A3 _ _;have d:=(A0 (o:=.box (C1 fxO)) m) _ _ d;have i:=(A0 (o:=.box (C1 fxO)) m) _ _ i;have g:=(A0 (o:=.box (C1 fxO)) m) _ _ g;have j:=(A0 (o:=.box (C1 fxO)) m) _ _ j;have C:=A.trans (A0 (o:=.box (C1 fxO)) m);have a6:=J.le C;generalize H4.set q (.box (C1 fxO))=H5 at d i g j r C a6⊢;clear m;have m3:I∈[I,q]:=by simp
 have X:q∈[I,q]:=by simp
 have t1:decide ((fxT:ByteArray)=fxT)=true:=D0a rfl;rw[show C1 fxO=_ from C67]at r;refine F5 (fun Y=>if Y=12 then .agg (C1 fxF)else if Y=13 then .bool true else if Y=20 then .bool true else if Y=107 then .bool true else .undef) [I,q] ?_;repeat' (first|simp only[go_sem,seval,d,i,g,j,r,m3,X]|intro e|with_reducible refine R6 (fun H' Q hro hq=>A70 H' hq) ?_|with_reducible refine R6 (fun H' Q hro hq=>A6n fxF K5.2.1 H' hq) ?_)
 rename_i bv;have G:=e;clear e;have a9:bv∉[I,q]:=by simp only[D00,D01,or_false];rintro(rfl|rfl);rw[d]at G;cases G;rw[r]at G;cases G
 refine C84 (o:=.vec 2 (Rw vlC fxVals)) G rfl a9 (fun H' Q hro hb hq=>A0b hb rfl (C0G fxVals A6o _ hq)) ?_;repeat' (first|with_reducible apply D0Y|simp only[go_sem,seval,d,i,g,j,r,m3,X]|intro e|with_reducible refine R6 (fun H' Q hro hq=>C38 H' hq) ?_|omega)
 exact D10 C h
theorem B71(f:Fm)(L:FmFit f): ∀{Q:D→Heap→Prop} (left:Int) (H:Heap) (h:Q (.int .i64 (A3D f left)) H),E3 43 [.agg (C1 f),.int .i64 left] H Q:=by
 induction L with
 |mk o n l s ks ho hn hl hs hk X M=>
 intro Q left H h;rw[B9p]at h;change Q (.int .i64 (A3D.cntK ks (tcF l.t (IntKind.i64.wrap (left-IntKind.i64.wrap (IntKind.i64.wrap (1+s.size / 100)+l.t.length)))))) H at h;have O:=hl.len;rw[A5 (x:=1+(s.size:Int) / 100) (by omega) (by omega),A5 (x:=1+(s.size:Int) / 100+(l.t.length:Int)) (by omega) (by omega)]at h;have e:C1 (.mk o n l s ks)= [.int .i64 o,.int .i64 n,.sl 2 (Rw N7 l.t),.int .i64 l.k,.bool l.e,.str s,.sl 7 (Rw C1 ks)]:=M4 _;rw[e];refine A9 [] A8 Tryz.func43 rfl ?_;simp only[go_sem,seval,Tryz.results43];intro C T;have e2:(H.set C (.box [.int .i64 o,.int .i64 n,.sl 2 (Rw N7 l.t),.int .i64 l.k,.bool l.e,.str s,.sl 7 (Rw C1 ks)])) C=some (.box [.int .i64 o,.int .i64 n,.sl 2 (Rw N7 l.t),.int .i64 l.k,.bool l.e,.str s,.sl 7 (Rw C1 ks)]):=A3 _ _;have y:H.Le (H.set C (.box [.int .i64 o,.int .i64 n,.sl 2 (Rw N7 l.t),.int .i64 l.k,.bool l.e,.str s,.sl 7 (Rw C1 ks)])):=A0 T;generalize H.set C (.box [.int .i64 o,.int .i64 n,.sl 2 (Rw N7 l.t),.int .i64 l.k,.bool l.e,.str s,.sl 7 (Rw C1 ks)])=Bs at e2 y⊢;repeat' (first|with_reducible apply D0Y|simp only[go_sem,seval,e2]|simp(disch:=omega) only[A5,B2,C3]|intro z|omega)
 refine C9 [2,23,24] (fun(p:Nat×Int)=>[(25,.int .i64 p.1),(1,.int .i64 p.2)]) (fun(p:Nat×Int)=>Bs) (fun(p:Nat×Int)=>p.1≤l.t.length∧tcF (l.t.drop p.1) p.2=tcF l.t (IntKind.i64.wrap (left-(1+(s.size:Int) / 100+l.t.length)))) (fun(p:Nat×Int)=>l.t.length-p.1) ((0,IntKind.i64.wrap (left-(1+(s.size:Int) / 100+l.t.length)))) (⟨D0t _,rfl⟩) (by(try simp only[go_sem,seval])<;>(try simp(disch:=omega) [A5])) (by first|exact D1z _|exact A0 (by assumption)|exact B3 (by assumption)|simp only[Heap.Le,Heap.set,Heap.del]at* <;>grind) ?_;rintro U rfl ⟨i,n⟩ ⟨V,hv⟩;simp only at V hv;by_cases r:i<l.t.length
 ·have A:decide ((i:Int)<l.t.length)=true:=D0a (by omega);have G:(i:Int)<l.t.length:=by omega
  have hsz:=hl.str _ (D0m r);repeat' (first|with_reducible apply D0Y|simp only[go_sem,seval,A,G,B2 _ _ r,C2 _ _ r]|simp(disch:=omega) only[A5,B2,C3]|intro z|omega)
  rw[D03 r,tcF]at hv;exact C4 (i+1,IntKind.i64.wrap (n-(l.t[i].v.size:Int) / 100)) ⟨by simp only[];omega,hv⟩ (by simp only[];omega) (by(try simp only[go_sem,seval])<;>(try simp(disch:=omega) [A5])) (by simp only[D9,D2,D3]at* <;>grind)
 ·have A:decide ((i:Int)<l.t.length)=false:=D0b (by omega);rw[List.drop_of_length_le (by omega),tcF]at hv;rw[←hv]at h;clear hv;repeat' simp only[go_sem,seval,A,e2]
  refine C9 [37,38] (fun(p:Nat×Int)=>[(39,.int .i64 p.1),(1,.int .i64 p.2)]) (fun(p:Nat×Int)=>Bs) (fun(p:Nat×Int)=>p.1≤ks.length∧A3D.cntK (ks.drop p.1) p.2=A3D.cntK ks n) (fun(p:Nat×Int)=>ks.length-p.1) ((0,n)) (⟨D0t _,rfl⟩) (by(try simp only[go_sem,seval])<;>(try simp(disch:=omega) [A5])) (by first|exact D1z _|exact A0 (by assumption)|exact B3 (by assumption)|simp only[Heap.Le,Heap.set,Heap.del]at* <;>grind) ?_;rintro U rfl ⟨j,m⟩ ⟨W,hw⟩;simp only at W hw;by_cases d:j<ks.length
  ·have q:decide ((j:Int)<ks.length)=true:=D0a (by omega);have u:(j:Int)<ks.length:=by omega
   have I: ∀{Q:D→Heap→Prop} (left:Int) (H:Heap) (h:Q (.int .i64 (A3D ks[j] left)) H),E3 43 [.agg (C1 ks[j]),.int .i64 left] H Q:=M ks[j] (D0m d);rw[D03 d,A3D.cntK]at hw;by_cases g:m<0
   ·rw[if_pos g]at hw;have J:=D0a g;repeat' (first|with_reducible apply D0Y|simp only[go_sem,seval,q,u,g,J,B2 _ _ d,C2 _ _ d]|intro z|omega)
    rw[hw];exact D10 (y.trans (A0 (by assumption))) h
   ·rw[if_neg g]at hw;have J:=D0b g;repeat' (first|with_reducible apply D0Y|simp only[go_sem,seval,q,u,g,J,B2 _ _ d,C2 _ _ d]|simp(disch:=omega) only[A5,B2,C3]|intro z|with_reducible refine I _ _ ?_|omega)
    exact C4 (j+1,A3D ks[j] m) ⟨by simp only[];omega,hw⟩ (by simp only[];omega) (by(try simp only[go_sem,seval])<;>(try simp(disch:=omega) [A5])) (by simp only[D9,D2,D3]at* <;>grind)
  ·have q:decide ((j:Int)<ks.length)=false:=D0b (by omega);rw[List.drop_of_length_le (by omega),A3D.cntK]at hw;repeat' simp only[go_sem,seval,q]
   rw[hw];exact D10 y h
theorem C39{Q}(l:List Fm)(hl:l.length≤1466015503658)(o: ∀f∈l,FmFit f)(H:Heap)(h:Q (.bool (decide (0≤B2R l 600))) H):E3 12 [.sl 7 (Rw C1 l)] H Q:=by
 refine A9 [] A8 Tryz.func12 rfl ?_;simp only[go_sem,seval,Tryz.results12];repeat' (first|with_reducible apply D0Y|simp only[go_sem,seval]|simp(disch:=omega) only[A5,B2,C3]|intro g|omega)
 refine C9 [6,7] (fun(p:Nat×Int)=>[(8,.int .i64 p.1),(3,.int .i64 p.2)]) (fun(p:Nat×Int)=>H) (fun(p:Nat×Int)=>p.1≤l.length∧B2R (l.drop p.1) p.2=B2R l 600) (fun(p:Nat×Int)=>l.length-p.1) ((0,600)) (⟨D0t _,rfl⟩) (by(try simp only[go_sem,seval])<;>(try simp(disch:=omega) [A5])) (by first|exact D1z _|exact A0 (by assumption)|exact B3 (by assumption)|simp only[Heap.Le,Heap.set,Heap.del]at* <;>grind) ?_;rintro r rfl ⟨i,n⟩ ⟨q,hv⟩;simp only at q hv;by_cases d:i<l.length
 ·have e:decide ((i:Int)<l.length)=true:=D0a (by omega);have j:(i:Int)<l.length:=by omega
  have m: ∀{Q:D→Heap→Prop} (left:Int) (H:Heap) (h:Q (.int .i64 (A3D l[i] left)) H),E3 43 [.agg (C1 l[i]),.int .i64 left] H Q:=B71 l[i] (o _ (D0m d));rw[D03 d,B2R]at hv;repeat' (first|with_reducible apply D0Y|simp only[go_sem,seval,e,j,B2 _ _ d,C2 _ _ d]|simp(disch:=omega) only[A5,B2,C3]|intro g|with_reducible refine m _ _ ?_|omega)
  exact C4 (i+1,A3D l[i] n) ⟨by simp only[];omega,hv⟩ (by simp only[];omega) (by(try simp only[go_sem,seval])<;>(try simp(disch:=omega) [A5])) (by simp only[D9,D2,D3]at* <;>grind)
 ·have e:decide ((i:Int)<l.length)=false:=D0b (by omega);rw[List.drop_of_length_le (by omega),B2R]at hv;rw[←hv]at h;repeat' simp only[go_sem,seval,e]
  first
   |exact D13 h
   |(rw[show decide (n≥0)=decide (0≤n)from rfl];exact D13 h)
end Go.Proofs.YtibphjonmikciaaGreatDoor
namespace Go.Fo
open Go Go.Av Go.Lexs Go.Lin
theorem C0M{Q:D→Heap→Prop}{H:Heap}{n:Nat}{ob:Option Nat}{o m:Int}{l:LinV}{s:ByteArray}{ks:List Fm}(hn:n=ks.length)(ho:OutAt H 7 (Rw C1 ks) ob)(h:Fin Q (.agg (C1 (.mk o m l s ks))) (K1 H ob)):
  Fin Q (.agg [.int .i64 o,.int .i64 m,.sl 2 (Rw N7 l.t),.int .i64 l.k,.bool l.e,.str s,J1 7 n ob]) H:=by
 rw[W9]at h;cases ob with
 |none=>
  have d:Rw C1 ks= []:=ho;refine D7 ?_ h;rw[d];exact A8t (.same _) (.nil 7)
 |some b=>
  have hb:H b=some (.vec 7 (Rw C1 ks)):=ho;subst hn;refine Q8 (cs':=[.int .i64 o,.int .i64 m,.sl 2 (Rw N7 l.t),.int .i64 l.k,.bool l.e,.str s,.sl 7 (Rw C1 ks)]) hb rfl (fz7 (.same _) ?_) h;have:=Fz.all (b:=b) (sz:=7) (es:=Rw C1 ks);rwa [D6]at this
end Go.Fo
namespace Go.Proofs.YtibphjonmikciaaGreatDoor
open Go Go.Av Go.Lexs Go.Lin Go.Fo
attribute [local irreducible] ACalls S9
set_option maxHeartbeats 4000000 in
theorem C4A(f:Fm)(ff:FmFit f): ∀{Q:D→Heap→Prop} (H:Heap) (h:Q (.agg (C1 f)) H),E3 41 [.agg (C1 f)] H Q:=by
 induction ff with
 |mk o n l s ks ho hn hl hs hk hf ih=>
 intro Q H h;have e:C1 (.mk o n l s ks)= [.int .i64 o,.int .i64 n,.sl 2 (Rw N7 l.t),.int .i64 l.k,.bool l.e,.str s,.sl 7 (Rw C1 ks)]:=M4 _;have a9:=hl.len;rw[e];refine A9 [(3,.wk)] A8 Tryz.func41 rfl ?_;simp only[go_sem,seval,Tryz.results41];intro d O j M;simp only[A6]at M;have r:d≠j:=fun e=>M.1 e.symm;obtain⟨Z,hZ⟩: ∃Z:List D,Z= [.int .i64 0,.int .i64 0,.nilsl,.int .i64 0,.bool false,.str ⟨#[]⟩,.nilsl]:=⟨_,rfl⟩
 rw[←hZ];obtain⟨X,hX⟩: ∃X:List D,X= [.int .i64 o,.int .i64 n,.sl 2 (Rw N7 l.t),.int .i64 l.k,.bool l.e,.str s,.sl 7 (Rw C1 ks)]:=⟨_,rfl⟩
 rw[←hX];have e1:((H.set d (.box X)).set j (.box Z)) d=some (.box X):=by rw[A4 _ r,A3]
 have e2:((H.set d (.box X)).set j (.box Z)) j=some (.box Z):=A3 _ _;have I:H.Le ((H.set d (.box X)).set j (.box Z)):=(A0 O).trans (A0 (by simp only[A6];exact M));generalize (H.set d (.box X)).set j (.box Z)=Bs at e1 e2 I⊢;rw[hX]at e1;repeat' (first|with_reducible apply D0Y|simp only[go_sem,seval,e1]|simp(disch:=first|omega|grind) only[B4]|(intro g;try simp only[A6]at g)|omega)
 rename_i z hz y;have u:=g;clear g;rw[E7 hz]at u⊢;have T:d≠y:=fun e=>by rw[←e,e1]at u;cases u
 have U:j≠y:=fun e=>by rw[←e,e2]at u;cases u
 have f1:(Bs.set y (.vec 2 (Rw N7 l.t))) d=some (.box [.int .i64 o,.int .i64 n,.sl 2 (Rw N7 l.t),.int .i64 l.k,.bool l.e,.str s,.sl 7 (Rw C1 ks)]):=by rw[A4 _ T];exact e1
 repeat' simp only[go_sem,seval,f1]
 refine B7i [(1,.box d 0),(2,.box j 0),(3,.nilsl)] (Bs.set d (.box [.int .i64 o,.int .i64 n,.sl 2 (Rw N7 l.t),.int .i64 l.k,.bool l.e,.str s,.sl 7 (Rw C1 ks)])) (A7y (cs:=[.int .i64 o,.int .i64 n,.vec y 2 0 l.t.length,.int .i64 l.k,.bool l.e,.str s,.sl 7 (Rw C1 ks)]) (by simp only[go_sem,seval]) u T rfl (fz7 ?_ (.same _))) ?_
 ·have:=Fz.all (b:=y) (sz:=2) (es:=Rw N7 l.t);rwa [D6]at this
 have V:(Bs.set d (.box [.int .i64 o,.int .i64 n,.sl 2 (Rw N7 l.t),.int .i64 l.k,.bool l.e,.str s,.sl 7 (Rw C1 ks)])) d=some (.box [.int .i64 o,.int .i64 n,.sl 2 (Rw N7 l.t),.int .i64 l.k,.bool l.e,.str s,.sl 7 (Rw C1 ks)]):=A3 _ _;have c2:(Bs.set d (.box [.int .i64 o,.int .i64 n,.sl 2 (Rw N7 l.t),.int .i64 l.k,.bool l.e,.str s,.sl 7 (Rw C1 ks)])) j=some (.box Z):=by rw[A4 _ r.symm];exact e2
 have q:H.Le (Bs.set d (.box [.int .i64 o,.int .i64 n,.sl 2 (Rw N7 l.t),.int .i64 l.k,.bool l.e,.str s,.sl 7 (Rw C1 ks)])):=G6 I O;generalize Bs.set d (.box [.int .i64 o,.int .i64 n,.sl 2 (Rw N7 l.t),.int .i64 l.k,.bool l.e,.str s,.sl 7 (Rw C1 ks)])=Cs at V c2 q⊢;clear e1 e2 f1 u hz T U;repeat' simp only[go_sem,seval,V]
 refine C9 [1,2,14,15] (fun(p:Nat×Option Nat×Heap)=>[(16,.int .i64 p.1),(3,J1 7 p.1 p.2.1)]) (fun(p:Nat×Option Nat×Heap)=>p.2.2) (fun(p:Nat×Option Nat×Heap)=>p.1≤ks.length∧OutIn Cs 7 (Rw C1 (ks.take p.1)) p.2.1 p.2.2) (fun(p:Nat×Option Nat×Heap)=>ks.length-p.1) ((0,none,Cs)) (⟨D0t _,D1z _,rfl,fun _ e=>by cases e⟩) (by(try simp only[go_sem,seval])<;>(try simp(disch:=omega) [A5])) (by first|exact D1z _|exact A0 (by assumption)|exact B3 (by assumption)|simp only[Heap.Le,Heap.set,Heap.del]at* <;>grind) ?_;rintro Ec rfl ⟨i,ob,Hp⟩ ⟨hi,G⟩;simp only at hi G;by_cases m:i<ks.length
 ·have A:decide ((i:Int)<ks.length)=true:=D0a (by omega);have W:(i:Int)<ks.length:=by omega
  have Y: ∀{Q:D→Heap→Prop} (H:Heap) (h:Q (.agg (C1 ks[i])) H),E3 41 [.agg (C1 ks[i])] H Q:=ih ks[i] (D0m m);repeat' (first|with_reducible apply D0Y|simp only[go_sem,seval,A,W,B2 _ _ m,C2 _ _ m]|(intro g;try simp only[A6]at g)|with_reducible refine Y _ ?_|omega)
  rename_i b5 h5 x;have hx:=g;clear g;have q5:=G.set h5 (.box (C1 ks[i]));have J:(Hp.set b5 (.box (C1 ks[i]))) x=none:=by rw[A4 _ hx.1];exact hx.2
  refine B27 (q5.set J _) (by simp) (N0 _ _ (by omega)).symm (by simp only[D0d,D0f];omega) (by simp only[D0d,D0f];omega) fun b' a0 a4 a6=>?_;repeat' (first|simp only[go_sem,seval]|simp(disch:=omega) only[A5,B2,C3])
  refine C4 (i+1,some b',_) ⟨by simp only[];omega,(q5.set J _).le.trans (A0 a4),?_,fun c hc=>by cases hc;exact a0⟩ (by simp only[];omega) (by(try simp only[go_sem,seval])<;>(try simp(disch:=omega) [A5])) (D1z _);show Heap.set _ _ _ b'=_;rw[A3,M9 ks i m]
 ·have A:decide ((i:Int)<ks.length)=false:=D0b (by omega);have a5:i=ks.length:=by omega
  rw[D0n (by omega)]at G;have L:=G.1 _ _ V;have C:=G.1 _ _ c2;rw[hZ]at C;have o1:=A4W 7 i ob;repeat' (first|with_reducible apply D0Y|simp only[go_sem,seval,A,L,C,o1]|simp(disch:=first|omega|grind) only[B4])
  have qa:=A3t (G.less q) O L (.box [.int .i64 o,.int .i64 n,.sl 2 (Rw N7 l.t),.int .i64 l.k,.bool l.e,.str s,J1 7 i ob]);have qb:=A3t qa M.2 (b:=j) (rd:=[.int .i64 0,.int .i64 0,.nilsl,.int .i64 0,.bool false,.str ⟨#[]⟩,.nilsl]) (by rw[A4 _ r.symm];exact C) (.box [.int .i64 o,.int .i64 n,.sl 2 (Rw N7 l.t),.int .i64 l.k,.bool l.e,.str s,J1 7 i ob]);exact C0M (ks:=ks) a5 qb.2.1 (D10 qb.le h)
theorem C7C{Q}(f:Fm)(d:FmFit f)(H:Heap)(h:Q (.agg (C1 f)) H):E3 41 [.agg (C1 f)] H Q:=C4A f d H h
set_option maxHeartbeats 4000000 in
theorem B3n{Q}(o:Int)(ho:o=5∨o=6)(l:List Fm)(fl: ∀f∈l,FmFit f)(hlen:l.length≤1466015503658)(vl: ∀f∈l,VOk f)(hw:l.all E6=true→J0.wtL l≤900000)(H:Heap)(h:Q (.tuple [.agg (C1 (bothF o l).1),.int .i64 (bothF o l).2]) H):E3 25 [.int .i64 o,.sl 7 (Rw C1 l)] H Q:=by
 refine A9 [(3,.wk),(7,.par)] A8 Tryz.func25 rfl ?_;simp only[go_sem,seval,Tryz.results25];intro z g4;obtain⟨Z,hZ⟩: ∃Z:List D,Z= [.int .i64 0,.int .i64 0,.nilsl,.int .i64 0,.bool false,.str ⟨#[]⟩,.nilsl]:=⟨_,rfl⟩
 rw[←hZ];have e4:(H.set z (.box Z)) z=some (.box Z):=A3 _ _;have a9:H.Le (H.set z (.box Z)):=A0 g4;generalize H.set z (.box Z)=Bs at e4 a9⊢;repeat' (intro r;try simp only[A6]at r)
 rename_i u;have h6:=r;clear r;have V:z≠u:=fun e=>by rw[←e,e4]at h6;cases h6
 have c6:(Bs.set u (.box [.int .i64 o,.int .i64 0,.nilsl,.int .i64 0,.bool false,.str ⟨#[]⟩,.nilsl])) u=some (.box [.int .i64 o,.int .i64 0,.nilsl,.int .i64 0,.bool false,.str ⟨#[]⟩,.nilsl]):=A3 _ _;have c4:(Bs.set u (.box [.int .i64 o,.int .i64 0,.nilsl,.int .i64 0,.bool false,.str ⟨#[]⟩,.nilsl])) z=some (.box Z):=by rw[A4 _ V];exact e4
 have b0:H u=none:=a9.none h6;have G:H.Le (Bs.set u (.box [.int .i64 o,.int .i64 0,.nilsl,.int .i64 0,.bool false,.str ⟨#[]⟩,.nilsl])):=a9.trans (A0 h6);generalize Bs.set u (.box [.int .i64 o,.int .i64 0,.nilsl,.int .i64 0,.bool false,.str ⟨#[]⟩,.nilsl])=Cs at c6 c4 G⊢;refine C9 [4,6,13,14] (fun(p:Nat×Option Nat×Heap)=>[(15,.int .i64 p.1)]) (fun(p:Nat×Option Nat×Heap)=>p.2.2) (fun(p:Nat×Option Nat×Heap)=>p.1≤l.length∧(∀(j:Nat) (hj:j<l.length),j<p.1→E6 l[j]=true)∧AH 7 Cs u (fun x=>[.int .i64 o,.int .i64 0,.nilsl,.int .i64 0,.bool false,.str ⟨#[]⟩,x]) (Rw C1 (l.take p.1)) p.1 p.2.1 p.2.2) (fun(p:Nat×Option Nat×Heap)=>l.length-p.1) ((0,none,Cs)) (⟨D0t _,fun _ _ h=>by omega,A1B c6⟩) (by(try simp only[go_sem,seval])<;>(try simp(disch:=omega) [A5])) (by first|exact D1z _|exact A0 (by assumption)|exact B3 (by assumption)|simp only[Heap.Le,Heap.set,Heap.del]at* <;>grind) ?_;rintro Ec rfl ⟨i,ob,Hp⟩ ⟨hi,M,A⟩;simp only at hi M A;by_cases O:i<l.length
 ·have y:decide ((i:Int)<l.length)=true:=D0a (by omega);have b3:(i:Int)<l.length:=by omega
  have hm:=D0m O;have T:=fun(Q:D→Heap→Prop) (H:Heap)=>B1D (Q:=Q) l[i] (fl _ hm) (vl _ hm) H;repeat' simp only[go_sem,seval]
  refine P9 [(4,.box z 0),(6,.box u 0),(13,.sl 7 (Rw C1 l)),(14,.int .i64 l.length),(15,.int .i64 i)] Hp (by simp only[go_sem,seval]) (D1z _) ?_;have W:=A.keep z _ V c4;cases hv:E6 l[i]with
  |false=>
   rw[hv]at T;have b7:l.all E6=false:=by rw[List.all_eq_false];exact⟨_,hm,by rw[hv];decide⟩
   unfold bothF at h;rw[b7]at h;simp only[D0o,if_false]at h;rw[hZ]at W;repeat' (first|with_reducible apply D0Y|simp only[go_sem,seval,y,b3,W,B2 _ _ O,C2 _ _ O]|simp(disch:=first|omega|grind) only[B4,D4]|(intro r;try simp only[A6]at r)|with_reducible refine T _ _ ?_|omega)
   rename_i L;have h8:=r;clear r;have c7:z≠L:=fun e=>by rw[←e,W]at h8;cases h8
   have f4: ∀x,(Hp.set L x) z=some (.box [.int .i64 0,.int .i64 0,.nilsl,.int .i64 0,.bool false,.str ⟨#[]⟩,.nilsl]):=fun x=>by rw[A4 _ c7];exact W
   repeat' (first|with_reducible apply D0Y|simp only[go_sem,seval,f4,W]|simp(disch:=omega) only[A5,B2,C3]|simp(disch:=first|omega|grind) only[B4,D4]|(intro r;try simp only[A6]at r)|omega)
   refine D7 (A0m 2) (D10 (fun k o hk=>?_) h);have k4:k≠z:=fun e=>by rw[e,g4]at hk;cases hk
   have k6:k≠u:=fun e=>by rw[e,b0]at hk;cases hk
   have hp:=A.keep k o k6 (G k o hk);have k8:k≠L:=fun e=>by rw[e,h8]at hp;cases hp
   rw[A4 _ k4,A4 _ k8];exact hp
  |true=>
   rw[hv]at T;have oc:=fun(Q:D→Heap→Prop) (H:Heap)=>C7C (Q:=Q) l[i] (fl _ hm) H;repeat' (first|with_reducible apply D0Y|simp only[go_sem,seval,y,b3,B2 _ _ O,C2 _ _ O]|(intro r;try simp only[A6]at r)|with_reducible refine T _ _ ?_|omega)
   rename_i L;have h8:=r;clear r;obtain⟨d6,d8,dO,dN⟩:=A.at7 h8 (.box (C1 l[i]));refine F5 (fun i'=>.agg (C1 l[i])) [u,L] ?_;have m6:u∈[u,L]:=by simp
   have m8:L∈[u,L]:=by simp
   repeat' (first|simp only[go_sem,seval,d6,d8,m6,m8]|(intro r;try simp only[A6]at r)|with_reducible refine R6 (fun H' Q hro hq=>oc _ H' hq) ?_)
   rename_i x;have hx:=r;clear r;obtain⟨b9,c8⟩:=hx;have X:(Hp.set L (.box (C1 l[i]))) x=none:=by rw[A4 _ b9];exact c8
   obtain⟨b1,c0⟩:=A3m dO X (.vec 7 [C1 l[i]]);have c9:x∉[u,L]:=by
    simp only[D00,D01,or_false,not_or];exact⟨fun e=>(by rw[e,d6]at X;cases X),b9⟩
   have d0: ∀c,ob=some c→c∉[u,L]:=fun c e=>by
    simp only[D00,D01,or_false,not_or];exact⟨(A.fresh c e).2,dN c e⟩
   refine A6Q 28 96 (n:=i) (m:=1) (bx:=x) (ob:=ob) (es:=Rw C1 (l.take i)) (xs:=[C1 l[i]]) (by simp only[go_sem,seval]) (by decide) (by simp only[go_sem,seval]) (by simp only[go_sem,seval]) (by simp only[go_sem,seval]) (by simp only[go_sem,seval]) (A3 _ _) rfl (by simp) b1 (N0 _ _ (by omega)).symm c9 c0 d0 (by simp only[D0d,D0f];omega) (by simp only[D0d,D0f];omega) fun b' c1=>?_;rw[E7 X]at c1⊢;obtain⟨d9,d2,A'⟩:=A.step h8 _ c1 (C1 l[i]);revert A';generalize d3:((K1 (Hp.set L (.box (C1 l[i]))) ob).set b' (.vec 7 (Rw C1 (l.take i)++[C1 l[i]]))).set u (.box [.int .i64 o,.int .i64 0,.nilsl,.int .i64 0,.bool false,.str ⟨#[]⟩,.vec b' 7 0 (i+1)])=Hf;intro A';repeat' (first|simp only[go_sem,seval,d2,m6]|simp(disch:=omega) only[A5,B2,C3])
   exact C4 (i+1,some b',Hf) ⟨by simp only[];omega,fun j hj d4=>(Nat.lt_or_ge j i).elim (fun g=>M j hj g) (fun g=>by have:j=i:=(by simp only[]at d4;omega);subst this;exact hv),by simp only[];rw[M9 l i (by omega)];exact A'⟩ (by simp only[];omega) (by(try simp only[go_sem,seval])<;>(try simp(disch:=omega) [A5])) (by rw[←d3];exact D1z _)
 ·have y:decide ((i:Int)<l.length)=false:=D0b (by omega);have d5:i=l.length:=by omega
  rw[D0n (by omega)]at A;have a5:l.all E6=true:=by
   rw[D09];intro k hk;obtain⟨j,hj,rfl⟩:=List.getElem_of_mem hk;exact M j hj (by omega)
  have e0:=hw a5;have W:=A.keep z _ V c4;have aH:H.Le Hp:=fun k q hk=>A.keep k q (fun e=>by rw[e,b0]at hk;cases hk) (G k q hk)
  obtain⟨Y,Gp,a0,d7,c2,q6,q4,qH⟩: ∃(Y:D) (Gp:Heap),(Y= .nilsl∨Y= .sl 7 (Rw C1 l))∧NilR Y (.sl 7 (Rw C1 l))∧(∀E,Av.Sub [(4,.box z 0),(6,.box u 0),(14,.int .i64 l.length),(15,.int .i64 i)] E→A0w [(4,.box z 0),(6,.box u 0),(14,.int .i64 l.length),(15,.int .i64 i)] Gp E Hp)∧
    Gp u=some (.box [.int .i64 o,.int .i64 0,.nilsl,.int .i64 0,.bool false,.str ⟨#[]⟩,Y])∧Gp z=some (.box Z)∧H.Le Gp:=by
   have A1:=A.box;have A2:=A.out;cases ob with
   |none=>
    have hz:Rw C1 l= []:=A2;exact⟨.nilsl,Hp,.inl rfl,(by rw[hz];exact .nil 7),fun E hS=>A5P hS.all (D1z _),A1,W,aH⟩
   |some c=>
    have hc:Hp c=some (.vec 7 (Rw C1 l)):=A2;have U:=A.fresh c rfl;have k4:z≠c:=fun e=>by rw[←e,c4]at U;cases U.1
    refine⟨.sl 7 (Rw C1 l),(Hp.del c).set u (.box [.int .i64 o,.int .i64 0,.nilsl,.int .i64 0,.bool false,.str ⟨#[]⟩,.sl 7 (Rw C1 l)]),.inr rfl,.same _,fun E hS=>A1t hc (B1v hS) fun k q hq=>?_,A3 _ _,by rw[A4 _ V,D4 k4];exact W,fun k q hk=>?_⟩
    ·by_cases e6:k=u
     ·subst e6;rw[A3]at hq;cases hq;refine⟨U.2.symm,_,A1,.box _ _ _ rfl (fz7 (.same _) ?_)⟩;have:=Fz.all (b:=c) (sz:=7) (es:=Rw C1 l);rw[D6,←d5]at this;exact this
     ·rw[A4 _ e6]at hq;have kc:k≠c:=fun e=>by rw[e,Heap.del,if_pos rfl]at hq;cases hq
      rw[D4 kc]at hq;exact⟨kc,q,hq,.same _⟩
    ·have k6:k≠u:=fun e=>by rw[e,b0]at hk;cases hk
     have kc:k≠c:=fun e=>by rw[e]at hk;rw[G _ _ hk]at U;cases U.1
     rw[A4 _ k6,D4 kc];exact aH _ _ hk
  repeat' simp only[go_sem,seval]
  refine B7i _ Gp (c2 _ (by simp only[go_sem,seval])) ?_;clear c2 A W aH;obtain⟨g,hg⟩: ∃g,g=Fm.mk o 0 nilL D8 l:=⟨_,rfl⟩
  have a6:FmFit g:=by rw[hg];exact P5 (by rcases ho with rfl|rfl<;>simp[U6]) hlen fl
  have c3:J0 g≤1000000:=by rw[hg,K4];simp only[Fm.l,Fm.ks,nilL,D0f];omega
  have I:NilR (.agg [.int .i64 o,.int .i64 0,.nilsl,.int .i64 0,.bool false,.str ⟨#[]⟩,Y]) (.agg (C1 g)):=by rw[hg,W9];exact A8t (.nil 2) d7
  have nc: ∀(Q:D→Heap→Prop) (H:Heap),Q (.tuple [.sl 1 (Rw K2 (ivF g)),.sl 1 (Rw K2 (bvF g))]) H→E3 48 [.agg [.int .i64 o,.int .i64 0,.nilsl,.int .i64 0,.bool false,.str ⟨#[]⟩,Y],.nilsl,.nilsl] H Q:=fun Q H hq=>O2 (args':=[.agg (C1 g),.nilsl,.nilsl]) rfl (fun i d d' h1 C=>(match i,h1,C with
   |0,h1,C=>by cases h1;cases C;exact I
   |1,h1,C=>by cases h1;cases C;exact .same _
   |2,h1,C=>by cases h1;cases C;exact .same _
   |i+3,h1,C=>by cases h1)) (B1C g a6 c3 H hq)
  have T: ∀(Q:D→Heap→Prop) (H:Heap),Q (.bool (E6 g)) H→E3 19 [.agg [.int .i64 o,.int .i64 0,.nilsl,.int .i64 0,.bool false,.str ⟨#[]⟩,Y]] H Q:=fun Q H hq=>O2 (args':=[.agg (C1 g)]) rfl (fun i d d' h1 C=>(match i,h1,C with
   |0,h1,C=>by cases h1;cases C;exact I
   |i+1,h1,C=>by cases h1)) (B1D g a6 (.inl c3) H hq)
  have b2:meetL (ivF g) (bvF g)=meetL (D5.intsL l) (C7.boolsL l):=A0I
   (fun x=>by unfold ivF;rw[Q0,hg,A6S];simp[Fm.l,Fm.ks,nilL])
   (fun x=>by unfold bvF;rw[Q0,hg,A4Y];rcases ho with rfl|rfl<;>simp[Fm.op,Fm.ks])
  have c5:(ivF g).length≤1000000000∧(bvF g).length≤1000000000:=by
   have h1:=R3 (D5 g) [];have C:=R3 (C7 g) [];have h3:=A7p l;have h4:(D5 g).length=(D5.intsL l).length:=by rw[hg,A6S];simp[Fm.l,Fm.ks,nilL]
   have h5:(C7 g).length=(C7.boolsL l).length:=by rw[hg,A4Y];rcases ho with rfl|rfl<;>simp[Fm.op,Fm.ks]
   simp only[D0f]at h1 C;unfold ivF bvF upS;exact⟨by omega,by omega⟩
  unfold bothF at h;rw[if_pos a5,←b2,←hg]at h;have mc:=fun(Q:D→Heap→Prop) (H:Heap)=>B7r (Q:=Q) (ivF g) (bvF g) c5.1 c5.2 H;rw[hZ]at q4;have J: ∀x,H.Le (Gp.set z x):=fun x k q hk=>by
   rw[A4 _ (fun e=>by rw[e,g4]at hk;cases hk)];exact qH k q hk
  have e7:Y.one=true:=by rcases a0 with rfl|rfl<;>rfl
  cases hm:meetL (ivF g) (bvF g)with
  |true=>
   rw[hm]at h mc;simp only[if_true]at h;rcases a0 with rfl|rfl
   ·repeat' (first|simp only[go_sem,seval,y,q6,q4]|with_reducible refine nc _ _ ?_|with_reducible refine mc _ _ ?_)
    exact D7 (A0m 15) (D10 (J _) h)
   ·repeat' (first|simp only[go_sem,seval,y,q6,q4]|with_reducible refine nc _ _ ?_|with_reducible refine mc _ _ ?_)
    exact D7 (A0m 15) (D10 (J _) h)
  |false=>
   rw[hm]at h mc;simp only[D0o,if_false]at h;cases hv:E6 g with
   |false=>
    rw[hv]at h T;simp only[D0o,if_false]at h;rcases a0 with rfl|rfl
    ·repeat' (first|simp only[go_sem,seval,y,q6,q4]|with_reducible refine nc _ _ ?_|with_reducible refine mc _ _ ?_|with_reducible refine T _ _ ?_)
     exact D7 (A0m 3) (D10 (J _) h)
    ·repeat' (first|simp only[go_sem,seval,y,q6,q4]|with_reducible refine nc _ _ ?_|with_reducible refine mc _ _ ?_|with_reducible refine T _ _ ?_)
     exact D7 (A0m 3) (D10 (J _) h)
   |true=>
    rw[hv]at h T;simp only[if_true]at h;rcases a0 with rfl|rfl
    ·repeat' (first|simp only[go_sem,seval,y,q6,q4]|with_reducible refine nc _ _ ?_|with_reducible refine mc _ _ ?_|with_reducible refine T _ _ ?_)
     exact D7 (B6r I) (D10 (J _) h)
    ·repeat' (first|simp only[go_sem,seval,y,q6,q4]|with_reducible refine nc _ _ ?_|with_reducible refine mc _ _ ?_|with_reducible refine T _ _ ?_)
     exact D7 (B6r I) (D10 (J _) h)
set_option maxHeartbeats 4000000 in
theorem B40{Q}(l:List Fm)(j: ∀f∈l,FmFit f)(hlen:l.length≤1466015503658)(r: ∀f∈l,VOk f)(hw:l.all E6=true→J0.wtL l≤900000)(H:Heap)(I:Tabs H)(h:Q (.bool true) H):E3 5 [.sl 7 (Rw C1 l)] H Q:=by
 refine A9 [] A8 Tryz.func5 rfl ?_;simp only[go_sem,seval,Tryz.results5];have u:=fun(Q:D→Heap→Prop) (H:Heap)=>C39 (Q:=Q) l hlen j H;by_cases hc:0≤B2R l 600
 rotate_left
 ·rw[D0b hc]at u;repeat' (first|simp only[go_sem,seval]|with_reducible refine u _ _ ?_|with_reducible refine B1G _ I ?_)
  exact D13 h
 rw[D0a hc]at u;have a1:=fun(Q:D→Heap→Prop) (H:Heap)=>C1f (Q:=Q) l j hlen r hw H;have a2:=fun(Q:D→Heap→Prop) (H:Heap)=>B3n (Q:=Q) 5 (.inl rfl) l j hlen r hw H;have a3:=fun(Q:D→Heap→Prop) (H:Heap)=>C65 (Q:=Q) l j hlen r hw H;have y:=fun(Q:D→Heap→Prop) (H:Heap)=>B3n (Q:=Q) 6 (.inr rfl) l j hlen r hw H;have z:FmFit zeroF:=.mk _ _ _ _ _ (by simp[U6]) (by simp[U6]) A0Y (by decide) (by simp) (by simp);have C: ∀o:Int,o=5∨o=6→FmFit (bothF o l).1:=fun o ho=>by
  unfold bothF;split
  ·split
   ·exact z
   ·split
    ·exact P5 (by rcases ho with rfl|rfl<;>simp[U6]) hlen j
    ·exact z
  ·exact z
 have f5:=C 5 (.inl rfl);have G:=C 6 (.inr rfl);clear C;generalize bothF 5 l=A at a1 a2 f5;generalize bothF 6 l=B at a3 y G;obtain⟨e,W⟩:=A;obtain⟨d,X⟩:=B;simp only at a1 a2 a3 y f5 G;have O: ∀{Q:D→Heap→Prop} (H:Heap) (h:Q (.bool true) H),E3 21 [.agg (C1 e),.agg (C1 e)] H Q:=A6n e f5;have T: ∀{Q:D→Heap→Prop} (H:Heap) (h:Q (.bool true) H),E3 21 [.agg (C1 d),.agg (C1 d)] H Q:=A6n d G;repeat' (first|simp only[go_sem,seval]|simp(disch:=first|omega|grind) only[B4]|(intro g;try simp only[A6]at g)|with_reducible refine u _ _ ?_|with_reducible refine a1 _ _ ?_|with_reducible refine a2 _ _ ?_|with_reducible refine a3 _ _ ?_|with_reducible refine y _ _ ?_)
 rename_i x U b5 h5 m V p;have J:=g;clear g;have i:H.Le ((((H.set x (.box (C1 e))).set b5 (.box (C1 e))).set m (.box (C1 d))).set p (.box (C1 d))):=(A0 U).trans ((A0 (A6.2 h5)).trans ((A0 (by simp only[A6];exact V)).trans (A0 (by simp only[A6];exact J))));have L:((((H.set x (.box (C1 e))).set b5 (.box (C1 e))).set m (.box (C1 d))).set p (.box (C1 d))) p=some (.box (C1 d)):=A3 _ _;have M:((((H.set x (.box (C1 e))).set b5 (.box (C1 e))).set m (.box (C1 d))).set p (.box (C1 d))) m=some (.box (C1 d)):=by rw[A4 _ J.1.symm,A3]
 have q:=I.le i;generalize (((H.set x (.box (C1 e))).set b5 (.box (C1 e))).set m (.box (C1 d))).set p (.box (C1 d))=Cs at i M L q⊢;repeat' (first|simp only[go_sem,seval,M,L]|with_reducible refine O _ ?_|with_reducible refine T _ ?_|with_reducible refine B1G _ q ?_)
 exact D10 i h
end Go.Proofs.YtibphjonmikciaaGreatDoor
namespace Go.Av
open Go.RowKit Go.ChangeShapes Go.WideShapes
def B1H(P:Program):Nat→List Field→Option Nat
 |o,[]=>some o
 |o,f::r=>if f.offset=o then B1H P (o+P.cellsOf f.type) r else none
def A4i(P:Program)(l:List TypeId)(t:TypeId):Bool:=match P.underlying t with
 |some .bool|some (.int _)|some .string=>decide (P.cellsOf t=1)
 |some (.slice e)=>decide (P.cellsOf t=1)&&l.contains e&&decide (0<P.cellsOf e)&&decide (0<P.bytesOf e)
 |some (.struct fs)=>decide (B1H P 0 fs.toList=some (P.cellsOf t))&&fs.toList.all (fun f=>l.contains f.type)
 |_=>false
def plainB(P:Program)(l:List TypeId):Bool:=l.all (A4i P l)
inductive A2A(P:Program):TypeId→List D→Prop
 |bool {t:TypeId} (b:Bool) (h:P.underlying t=some .bool):A2A P t [.bool b]
 |int {t:TypeId} {k:IntKind} (n:Int) (h:P.underlying t=some (.int k)) (hw:(Lit.int k n).wf=true):A2A P t [.int k n]
 |str {t:TypeId} (s:ByteArray) (h:P.underlying t=some .string) (hs:s.size≤reachBytes):A2A P t [.str s]
 |sl {t e:TypeId} (es:List (List D)) (h:P.underlying t=some (.slice e)) (hl:es.length*P.bytesOf e≤reachBytes) (he: ∀x∈es,A2A P e x):A2A P t [.sl (P.cellsOf e) es]
 |struct {t:TypeId} {fs:Array Field} (ps:List (List D)) (h:P.underlying t=some (.struct fs)) (hl:ps.length=fs.size) (hp: ∀(i:Nat) (f:Field) (p:List D),fs[i]? =some f→ps[i]? =some p→A2A P f.type p):A2A P t ps.flatten
section
variable {H:Type} {enc:TypeId×Value→H} {P:Program}
def B72(w:World)(Hp:Heap)(ds:List D)(cs:List Value):Prop:=∀(j:Nat) (d:D),ds[j]? =some d→d.one=true∧R w Hp d (cs.getD j Go.undef)
theorem A73{w:World}{Hp:Heap}{cs:List Value}: ∀(fs:List Field) (o m:Nat) (ps:List (List D)),B1H P o fs=some m→m≤cs.length→ps.length=fs.length→
  (∀(i:Nat) (f:Field) (p:List D),fs[i]? =some f→ps[i]? =some p→p.length=P.cellsOf f.type∧B72 w Hp p ((cs.drop f.offset).take (P.cellsOf f.type)))→
  o≤m∧o+ps.flatten.length=m∧∀(j:Nat) (d:D),ps.flatten[j]? =some d→d.one=true∧R w Hp d (cs.getD (o+j) Go.undef)
 | [],o,m,ps,g,_,hl,_=>by
  have:ps= []:=D0w (by simpa using hl);subst this;simp only[B1H,D1A]at g;subst g;exact⟨D0s _,by simp,fun j d h=>by simp at h⟩
 |f::r,o,m,ps,g,hm,hl,hp=>by
  cases ps with
  |nil=>simp at hl
  |cons p ps=>
   unfold B1H at g;split at g
   ·rename_i ho;obtain⟨q,u⟩:=hp 0 f p rfl rfl;obtain⟨h1,L,y⟩:=A73 r (o+P.cellsOf f.type) m ps g hm (by simpa using hl) (fun i z A C x=>hp (i+1) z A (by simpa using C) (by simpa using x));refine⟨by omega,by rw[List.flatten_cons,D0e,q];omega,fun j d h=>?_⟩;rw[List.flatten_cons,List.getElem?_append]at h;split at h
    ·rename_i G;obtain⟨I,J⟩:=u j d h;refine⟨I,?_⟩;have e:((cs.drop f.offset).take (P.cellsOf f.type)).getD j Go.undef=cs.getD (o+j) Go.undef:=by
      rw[List.getD_eq_getElem?_getD,List.getD_eq_getElem?_getD,List.getElem?_take_of_lt (by omega),List.getElem?_drop,ho]
     rw[←e];exact J
    ·rename_i G;have:=y (j-p.length) d h;have e:o+P.cellsOf f.type+(j-p.length)=o+j:=by omega
     rw[e]at this;exact this
   ·cases g
theorem A2B{e:TypeId}{n:Nat}: ∀{l:List (DataW H)},(DataW.weightsAll P e l).all (· ≤n)=true→∀d∈l,(d.weights P e).all (· ≤n)=true
 | [],_,d,g=>by cases g
 |x::l,h,d,g=>by
  rw[DataW.weightsAll,D1c,D0l]at h;rcases D00.1 g with rfl|g
  ·exact h.1
  ·exact A2B h.2 d g
theorem A0J{n:Nat}: ∀{j:List TypeId} {l:List (DataW H)},(DataW.weightsEach P j l).all (· ≤n)=true→∀(i:Nat) t d,j[i]? =some t→l[i]? =some d→(d.weights P t).all (· ≤n)=true
 | [],_,_,i,t,d,e,_=>by simp at e
 |_::_,[],_,i,t,d,_,g=>by simp at g
 |t0::j,m::l,h,i,t,d,e,g=>by
  rw[DataW.weightsEach,D1c,D0l]at h;cases i with
  |zero=>simp at e g;subst e;subst g;exact h.1
  |succ i=>exact A0J h.2 i t d (by simpa using e) (by simpa using g)
theorem B1I{a:Addr}(hs:a.spot=none)(n:Nat):a.add n=⟨a.block,a.off+n,none⟩:=by
 obtain⟨b,o,s⟩:=a;simp only at hs;subst hs;unfold Addr.add;split
 ·rename_i h;subst h;rfl
 ·rfl
theorem B1J{t:TypeId}{ds:List D}(d:P.underlying t=some .string)(h:A2A P t ds): ∃s,ds= [.str s]∧s.size≤reachBytes:=by
 cases h with
 |str s h hs=>exact⟨s,rfl,hs⟩
 |bool b h=>rw[d]at h;cases h
 |int n h=>rw[d]at h;cases h
 |sl es h=>rw[d]at h;cases h
 |struct ps h=>rw[d]at h;cases h
theorem B41{t:TypeId}{ds:List D}(d:P.underlying t=some .bool)(h:A2A P t ds): ∃b,ds= [.bool b]:=by
 cases h with
 |bool b h=>exact⟨b,rfl⟩
 |str s h hs=>rw[d]at h;cases h
 |int n h=>rw[d]at h;cases h
 |sl es h=>rw[d]at h;cases h
 |struct ps h=>rw[d]at h;cases h
theorem A3v{t:TypeId}{k:IntKind}{ds:List D}(d:P.underlying t=some (.int k))(h:A2A P t ds): ∃n,ds= [.int k n]∧(Lit.int k n).wf=true:=by
 cases h with
 |int n h hw=>rw[d]at h;cases h;exact⟨n,rfl,hw⟩
 |bool b h=>rw[d]at h;cases h
 |str s h hs=>rw[d]at h;cases h
 |sl es h=>rw[d]at h;cases h
 |struct ps h=>rw[d]at h;cases h
theorem C0N{t e:TypeId}{ds:List D}(d:P.underlying t=some (.slice e))(h:A2A P t ds): ∃es,ds= [.sl (P.cellsOf e) es]∧es.length*P.bytesOf e≤reachBytes∧∀x∈es,A2A P e x:=by
 cases h with
 |sl es h hl he=>rw[d]at h;cases h;exact⟨es,rfl,hl,he⟩
 |bool b h=>rw[d]at h;cases h
 |str s h hs=>rw[d]at h;cases h
 |int n h=>rw[d]at h;cases h
 |struct ps h=>rw[d]at h;cases h
theorem A44{t:TypeId}{fs:Array Field}{ds:List D}(d:P.underlying t=some (.struct fs))(h:A2A P t ds): ∃ps:List (List D),ds=ps.flatten∧ps.length=fs.size∧∀(i:Nat) (f:Field) (p:List D),fs[i]? =some f→ps[i]? =some p→A2A P f.type p:=by
 cases h with
 |struct ps h hl hp=>rw[d]at h;cases h;exact⟨ps,rfl,hl,hp⟩
 |bool b h=>rw[d]at h;cases h
 |str s h hs=>rw[d]at h;cases h
 |int n h=>rw[d]at h;cases h
 |sl es h=>rw[d]at h;cases h
theorem A9D{n:Int}(h:(Lit.int .i64 n).wf=true): -9223372036854775808≤n∧n≤9223372036854775807:=by
 unfold Lit.wf at h;rw[D0l,D0u,D0u]at h;exact h
theorem A3w(hl:laidOutB P=true){W j:World}(hb:Below W.heap.size W j): ∀{g:List TypeId} {vs:List Value} {ds:List (DataW H)} {ps:List MemPlace},g.all (fun t=>P.readableRec t&&decide (t<P.types.size))=true→
  DataW.TrodAll enc P W 0 (fun _=>true) true g vs ds ps→(∀x∈ps,x.block<W.heap.size)→DataW.TrodAll enc P j 0 (fun b=>decide (b<W.heap.size)) true g vs ds ps
 | [],[],[],_,_,h,_=>h
 | [],[],_::_,_,_,h,_=>h.elim
 | [],_::_,_,_,_,h,_=>h.elim
 |_::_,[],_,_,_,h,_=>h.elim
 |_::_,_::_,[],_,_,h,_=>h.elim
 |t::g,v::vs,d::ds,ps,i,h,e=>by
  obtain⟨p,q,h1,m,rfl⟩:=h;simp only[D1b,D0l,D0u]at i;exact⟨p,q,Below.trod hl i.1.1 i.1.2 h1 hb (fun x hx=>e x (List.mem_append_left _ hx)),A3w hl hb i.2 m (fun x hx=>e x (List.mem_append_right _ hx)),rfl⟩
theorem B42{f:Nat}{fn:Func}{s:ChangeSpec}{W:World}{args:Array Value}{ds M:List (DataW H)}{g:List MemPlace}{tb:TypeId}(m:laidOutB P=true)(o:fn.params.toList.all (fun t=>P.readableRec t&&decide (t<P.types.size))=true)
  (hv:s.vars= []) (u:fn.resultTypes= #[tb]) (hb:P.underlying tb=some .bool) (hs:s.fn H ds= {results:=[.lit (.bool true)],args:=ds})
  (z:DataW.Whole enc P fn.params.toList s.vars false W args.toList ds M g) (Hp:Heap) (O: ∀b,Hp.held b=false) (T:Sat Hp W) (xs:List D) (hx:xs.length=args.size) (U: ∀(i:Nat) d,xs[i]? =some d→R W Hp d (args.getD i Go.undef))
  (V: ∀Q:D→Heap→Prop,Q (.bool true) Hp→ACalls P f xs Hp Q):Calls P f args W fun e A=>∃v,e= .returned v∧s.post enc P fn false true false false W args v A:=by
 have C:=z.lt;have G:=z;obtain⟨p,q,I,L,rfl,X,Y⟩:=z;rw[hv]at L;obtain⟨rfl,rfl⟩:=trodVars_none L;refine((V (fun d _=>d= .bool true) rfl).2 W args hx U T).mono fun e A ⟨v,he,d,H',h1,h2,y,h4,h5⟩=>⟨v,he,?_⟩
 subst h5;have J:=h1.bool_inv;subst J;have j:Below W.heap.size W A:=⟨y.os,y.tape,y.output,y.size,fun k hk=>y.block k hk (O k)⟩
 have r:s.fn H (ds++[])= {results:=[.lit (.bool true)],args:=ds}:=by rw[D1N];exact hs
 refine⟨ds,[],p++[],[],p,[],G,?_,?_,?_,j.frame _,fun h=>by cases h⟩
 ·rw[r,u];exact trodAll_mk1 (shut_bool hb true)
 ·rw[r];exact A3w m j o I (fun x hx=>C x (by simpa using hx))
 ·rw[r,hv];exact rfl
theorem A9E{P:Program}{w:World}: ∀{l:List (String×DataW Unit)} {ps:List MemPlace},DataW.LaidVars P w l ps→∀n d,(n,d)∈l→
  ∃g t cs fuel p,P.globalNamed n=some g∧(P.globals[g]?).map (·.type)=some t∧w.var? P n=some cs∧DataW.trod (fun _=>()) P w 0 (fun _=>true) false fuel t cs.toList=some (d,p)
 | [],_,_,n,d,h=>by cases h
 |(o,u)::r,ps,h,n,d,hm=>by
  obtain⟨g,t,cs,fuel,p,q,h1,i,j,m,h5,_⟩:=h;rcases D00.1 hm with e|hm
  ·cases e;exact⟨g,t,cs,fuel,p,h1,i,j,m⟩
  ·exact A9E h5 n d hm
theorem C0O{P:Program}{W:World}{laid:List (String×DataW Unit)}(h:laidMet P laid W){name:String}{k:IntKind}{A:List Int}(hm:(name,Lib.tabData k A)∈laid){g:Nat}{t e:TypeId}{n:Nat}
  (C:P.globalNamed name=some g) (q:(P.globals[g]?).map (·.type)=some t) (G:P.underlying t=some (.array n e)) (he:P.underlying e=some (.int k)) (r:P.cellsOf e=1) (u:P.cellsOf t=n) (Hp:Heap):ObjOk W Hp g (.ro (B0S k A)):=by
 obtain⟨ps,hl,_⟩:=h;obtain⟨L,M,cs,fuel,p,x,y,i,o⟩:=A9E hl _ _ hm;obtain rfl:=Option.some.inj (C.symm.trans x);obtain rfl:=Option.some.inj (q.symm.trans y);have m:=Lib.cells_of_tab G he r u o;unfold World.var? at i;rw[C]at i;simp only[D02]at i;split at i
 ·rename_i c T I hw;cases i;refine⟨cs,T,I,hw,by rw[←D1P,m];simp[B0S],fun j d o=>?_⟩;simp only[B0S,D0v,D0h]at o;obtain⟨z,J,rfl⟩:=o;have e:cs.getD j Go.undef= .int k z:=by
   rw[show cs.getD j Go.undef=cs.toList.getD j Go.undef by simp,m];simp[J]
  rw[e];exact⟨rfl,.int _ _⟩
 ·cases i
end
end Go.Av
section
set_option maxRecDepth 100000
namespace Go.Proofs.YtibphjonmikciaaGreatDoor
open Go Go.Av Go.Lexs Go.Lin
theorem own:ownKnob Tryz.prog.godebug=none:=by kernel_rfl
theorem C0P:laidOutB Tryz.prog=true:=by kernel_rfl
def A9F(u v:Nat):Heap:=fun g=>if g=1 then some (.ro (B0S .u64 Lib.pow10Tab))
 else if g=2 then some (.ro [.iface u .undef])
 else if g=3 then some (.ro [.iface v .undef])else none
theorem A74(u v:Nat)(b:Nat):(A9F u v).held b=false:=by
 cases h:A9F u v b with
 |none=>exact H8 h
 |some o=>
  have: ∃cs,o= .ro cs:=by
   unfold A9F at h;repeat' (split at h;· cases h;exact⟨_,rfl⟩)
   cases h
  obtain⟨cs,rfl⟩:=this;rw[J2 h];rfl
theorem B43(u v:Nat):Tabs (A9F u v):=by
 refine⟨?_,⟨u,?_⟩,⟨v,?_⟩⟩<;>(unfold A9F;simp only[Nat.reduceEqDiff,if_true,if_false])
theorem B3o{P:Program}{W:World}{laid:List (String×DataW Unit)}(h:laidMet P laid W){name C:String}{x:DataW Unit}(hm:(name,DataW.iface C x)∈laid){g:Nat}{t:TypeId}{ms:Array String}
  (z:P.globalNamed name=some g) (q:(P.globals[g]?).map (·.type)=some t) (A:(match P.underlying t with|some (.interface _)=>true|_=>false)=true) (Hp:Heap): ∃u,ObjOk W Hp g (.ro [.iface u .undef]):=by
 obtain⟨ps,hl,_⟩:=h;obtain⟨J,L,cs,fuel,p,r,y,i,m⟩:=A9E hl _ _ hm;obtain rfl:=Option.some.inj (z.symm.trans r);obtain rfl:=Option.some.inj (q.symm.trans y);have hc: ∃u v,cs.toList= [.iface u v]:=by
  cases fuel with
  |zero=>simp[DataW.trod]at m
  |succ fuel=>
   unfold DataW.trod at m;split at A
   ·rename_i ms G;rw[G]at m;split at m<;>first|(rename_i h1 M;cases h1;done)|skip
    all_goals first|exact⟨_,_,by assumption⟩|(simp at m;done)
   ·cases A
 obtain⟨u,v,o⟩:=hc;unfold World.var? at i;rw[z]at i;simp only[D02]at i;split at i
 ·rename_i c T I hw;cases i;refine⟨u,cs,T,I,hw,by rw[←D1P,o];rfl,fun j d m=>?_⟩
  match j,m with
  |0,m=>
   cases m;have e:cs.getD 0 Go.undef= .iface u v:=by
    rw[show cs.getD 0 Go.undef=cs.toList.getD 0 Go.undef by simp,o];rfl
   rw[e];exact⟨rfl,.iface _ _ _ (.undef _)⟩
  |j+1,m=>cases m
 ·cases i
theorem B73:(Rows.laid_internal_strconv_uint64pow10:DataW Unit)=Lib.tabData .u64 Lib.pow10Tab:=by kernel_rfl
theorem B74{W:World}{laid:List (String×DataW Unit)}(h:laidMet Tryz.prog laid W)(h1:("internal/strconv.uint64pow10",(Rows.laid_internal_strconv_uint64pow10:DataW Unit))∈laid)(p:("strconv.ErrSyntax",(Rows.laid_strconv_ErrSyntax:DataW Unit))∈laid)(q:("strconv.ErrRange",(Rows.laid_strconv_ErrRange:DataW Unit))∈laid):
  ∃u v,Sat (A9F u v) W:=by
 rw[B73]at h1;obtain⟨u,r⟩:=B3o (ms:= #[]) h p (g:=2) (by kernel_rfl) (t:=140) (by kernel_rfl) (by kernel_rfl) (fun _=>none);obtain⟨v,hv⟩:=B3o (ms:= #[]) h q (g:=3) (by kernel_rfl) (t:=140) (by kernel_rfl) (by kernel_rfl) (fun _=>none);refine⟨u,v,?_⟩;intro b o hb;unfold A9F at hb;have mono: ∀{b x:Nat},ObjOk W (fun _=>none) b (.ro [.iface x .undef])→ObjOk W (A9F u v) b (.ro [.iface x .undef]):=fun {b x} ⟨c,T,z,A,C,m⟩=>⟨c,T,z,A,C,fun j d i=>⟨(m j d i).1,by
  have:=(m j d i).2
  match j,i with
  |0,i=>
   cases i;generalize c.getD 0 Go.undef=y at this⊢;cases this with
   |iface _ _ v hr=>exact .iface _ _ _ (.undef _)
  |j+1,i=>cases i⟩⟩
 split at hb
 ·rename_i e;cases hb;subst e;exact C0O h h1 (by kernel_rfl) (t:=(Tryz.prog.globals[1]?.map (·.type)).getD 0) (by kernel_rfl) (n:=20) (e:=196) (by kernel_rfl) (by kernel_rfl) (by kernel_rfl) (by kernel_rfl) _
 split at hb
 ·rename_i e;cases hb;subst e;exact mono r
 split at hb
 ·rename_i e;cases hb;subst e;exact mono hv
 ·cases hb
theorem A6p{α :Type}: ∀(l:List α),l.length=3→∃a b c,l= [a,b,c]
 | [a,b,c],_=>⟨a,b,c,rfl⟩
 | [],h=>by cases h
 | [_],h=>by cases h
 | [_,_],h=>by cases h
 |_::_::_::_::_,h=>by simp at h
theorem B75{α :Type}: ∀(l:List α),l.length=2→∃a b,l= [a,b]
 | [a,b],_=>⟨a,b,rfl⟩
 | [],h=>by cases h
 | [_],h=>by cases h
 |_::_::_::_,h=>by simp at h
theorem C1g{α :Type}{f: α →List D}{p: α →Prop}: ∀(es:List (List D)),(∀x∈es,∃t,x=f t∧p t)→∃l:List α,es=Rw f l∧∀t∈l,p t
 | [],_=>⟨[],rfl,by simp⟩
 |x::es,h=>by
  obtain⟨t,rfl,e⟩:=h x (by simp);obtain⟨l,rfl,hl⟩:=C1g es (fun y g=>h y (by simp[g]));refine⟨t::l,rfl,fun u d=>?_⟩;rcases D00.1 d with rfl|d
  ·exact e
  ·exact hl u d
theorem C0Q{el:List D}(h:A2A Tryz.prog 114 el): ∃t:LTm,el=N7 t∧(t.v.size≤140737488351232∧U6 t.c):=by
 have d:reachBytes=140737488351232:=rfl;obtain⟨ps,rfl,hl,hp⟩:=A44 Tryz.underlying114 h;obtain⟨e,g,rfl⟩:=B75 ps hl;obtain⟨s,rfl,hs⟩:=B1J (by kernel_rfl) (hp 0 _ _ rfl rfl);obtain⟨n,rfl,hn⟩:=A3v (k:=.i64) (by kernel_rfl) (hp 1 _ _ rfl rfl);exact⟨⟨s,n⟩,rfl,by simp only[];omega,A9D hn⟩
theorem B76{el:List D}(h:A2A Tryz.prog 25 el): ∃a:LinV,el=E5 a∧V7 a:=by
 have j:reachBytes=140737488351232:=rfl;obtain⟨ps,rfl,hl,hp⟩:=A44 Tryz.underlying25 h;obtain⟨r,u,x,rfl⟩:=A6p ps hl;obtain⟨es,rfl,he,g⟩:=C0N (e:=114) (by kernel_rfl) (hp 0 _ _ rfl rfl);obtain⟨k,rfl,hk⟩:=A3v (k:=.i64) (by kernel_rfl) (hp 1 _ _ rfl rfl);obtain⟨b,rfl⟩:=B41 (by kernel_rfl) (hp 2 _ _ rfl rfl);have m:Tryz.prog.cellsOf 114=2:=by kernel_rfl
 have o:Tryz.prog.bytesOf 114=24:=by kernel_rfl
 rw[o]at he;obtain⟨l,rfl,d⟩:=C1g (f:=N7) (p:=fun t=>t.v.size≤140737488351232∧U6 t.c) es (fun y q=>C0Q (g y q));rw[D6]at he;rw[m];exact⟨⟨l,k,b⟩,rfl,by simp only[];omega,fun t i=>(d t i).1,fun t i=>(d t i).2,A9D hk⟩
open Go Go.Av Go.Lexs Go.Lin Go.Fo
theorem B44{α :Type}: ∀(l:List α),l.length=5→∃a b c d e,l= [a,b,c,d,e]
 | [a,b,c,d,e],_=>⟨a,b,c,d,e,rfl⟩
 | [],h=>by cases h
 | [_],h=>by cases h
 | [_,_],h=>by cases h
 | [_,_,_],h=>by cases h
 | [_,_,_,_],h=>by cases h
 |_::_::_::_::_::_::_,h=>by simp at h
theorem C0R:plainB Tryz.prog [28,26,22,25,114,23,71,40,4,3,9]=true:=by kernel_rfl
theorem C0S:laidOutB Tryz.pinned.checked.prog=true:=by kernel_rfl
theorem B77:mapsRowed Tryz.pinned.checked.prog=true:=by kernel_rfl
theorem B78:Tryz.pinned.checked.prog.stopsHeard=true:=by kernel_rfl
theorem C4B:Tryz.pinned.checked.prog.mayEnter=true:=by kernel_rfl
end Go.Proofs.YtibphjonmikciaaGreatDoor
end
namespace Go.Av
open Go.RowKit Go.ChangeShapes Go.WideShapes
inductive FitsB(P:Program):TypeId→List D→Nat→Prop
 |bool {t:TypeId} (b:Bool) (n:Nat) (h:P.underlying t=some .bool):FitsB P t [.bool b] n
 |int {t:TypeId} {k:IntKind} (m:Int) (n:Nat) (h:P.underlying t=some (.int k)) (hw:(Lit.int k m).wf=true):FitsB P t [.int k m] n
 |str {t:TypeId} (s:ByteArray) (n:Nat) (h:P.underlying t=some .string) (hs:s.size≤reachBytes):FitsB P t [.str s] n
 |sl {t e:TypeId} (es:List (List D)) (ns:Nat→Nat) (n:Nat) (h:P.underlying t=some (.slice e)) (hl:es.length*P.bytesOf e≤reachBytes) (he: ∀(i:Nat) x,es[i]? =some x→FitsB P e x (ns i)) (h1: ∀i,i<es.length→1≤ns i) (hn:1+((List.range es.length).map ns).sum≤n):FitsB P t [.sl (P.cellsOf e) es] n
 |struct {t:TypeId} {fs:Array Field} (ps:List (List D)) (ns:Nat→Nat) (n:Nat) (h:P.underlying t=some (.struct fs)) (hl:ps.length=fs.size) (hp: ∀(i:Nat) (f:Field) (p:List D),fs[i]? =some f→ps[i]? =some p→FitsB P f.type p (ns i)) (h1: ∀i,i<fs.size→1≤ns i) (hn:1+((List.range fs.size).map ns).sum≤n):FitsB P t ps.flatten n
theorem FitsB.fits{P:Program}{t:TypeId}{ds:List D}{n:Nat}(h:FitsB P t ds n):A2A P t ds:=by
 induction h with
 |bool b n h=>exact .bool b h
 |int m n h hw=>exact .int m h hw
 |str s n h hs=>exact .str s h hs
 |sl es ns n h hl he h1 hn d=>
  refine .sl es h hl fun x hx=>?_;obtain⟨i,e⟩:=List.mem_iff_getElem?.1 hx;exact d i x e
 |struct ps ns n h hl hp h1 hn d=>exact .struct ps h hl d
theorem A6q(l:List Nat):((List.range l.length).map fun i=>l.getD i 0)=l:=by
 apply List.ext_getElem?;intro i;rw[D0v];by_cases h:i<l.length
 ·rw[List.getElem?_range h];simp[h]
 ·rw[List.getElem?_eq_none (by simp;omega),List.getElem?_eq_none (by omega)];rfl
section
variable {H:Type} {enc:TypeId×Value→H} {P:Program}
structure C4C(bk:DataW H→Nat):Prop where
 pos: ∀d,1≤bk d
 slice: ∀es sp,1+(es.map bk).sum≤bk (.slice es sp)
 agg: ∀ps,1+(ps.map bk).sum≤bk (.agg ps)
theorem A66{bk:DataW H→Nat}(hk:C4C bk){l:List TypeId}(hB:plainB P l=true){w:World}{base:Nat}{sp:Nat→Bool}{hd:Bool}{Hp:Heap}(hH: ∀b,Hp.held b=false):
  ∀(n:Nat) (t:TypeId) (cs:List Value) (x:DataW H×List MemPlace),t∈l→DataW.trod enc P w base sp hd n t cs=some x→(x.1.weights P t).all (· ≤reachBytes)=true→
   cs.length=P.cellsOf t∧∃ds,FitsB P t ds (bk x.1)∧ds.length=cs.length∧B72 w Hp ds cs:=by
 intro n
 induction n with
 |zero=>intro t cs x _ h;simp[DataW.trod]at h
 |succ n ih=>
  intro t cs x ht h hw;have q:A4i P l t=true:=D09.1 hB t ht;unfold A4i at q;have one: ∀{d:D} {v:Value},d.one=true→R w Hp d v→B72 w Hp [d] [v]:=fun h1 h2 j d' C=>by
   cases j with
   |zero=>simp at C;subst C;exact⟨h1,h2⟩
   |succ j=>simp at C
  cases A:P.underlying t with
  |none=>rw[A]at q;cases q
  |some u=>
   cases u with
   |bool=>
    rw[A]at q;obtain⟨b,rfl,rfl⟩:=DataW.trod_bool A h;exact⟨(D0Z q).symm,_,.bool b _ A,rfl,one rfl (.bool b)⟩
   |int k=>
    rw[A]at q;obtain⟨m,rfl,rfl,b6⟩:=DataW.trod_int A h;exact⟨(D0Z q).symm,_,.int m _ A b6,rfl,one rfl (.int k m)⟩
   |string=>
    rw[A]at q;obtain⟨s,rfl,rfl,_⟩:=DataW.trod_string A h;have hsz:s.size≤reachBytes:=by simpa [DataW.weights]using hw
    exact⟨(D0Z q).symm,_,.str s _ A hsz,rfl,one rfl (.str s)⟩
   |slice e=>
    rw[A]at q;simp only[D0l,D0u]at q;obtain⟨⟨⟨a6,U⟩,b7⟩,d0⟩:=q;have U:e∈l:=by simpa using U
    rcases DataW.trod_slice A h with⟨rfl,rfl⟩|⟨a,len,cap,o,rest,m,hm,rfl,rfl,hb,b8,d2,hlen,V,_,_⟩
    ·exact⟨a6.symm,_,.sl [] (fun _=>1) _ A (by simp) (by simp) (by simp) (by simpa using hk.pos _),rfl,one rfl (.sl0 _ _ _)⟩
    ·cases hm;have a9:(o.length+rest.length)*P.bytesOf e≤reachBytes∧(DataW.weightsAll P e (o.map (·.1))).all (· ≤reachBytes)=true:=by
      rw[DataW.weights,A]at hw;simp only[D1b,D1c,D0l,D0u,D1H]at hw;exact⟨hw.1,hw.2.1⟩
     have W: ∀i,∃p:List D×List Value,i<len→FitsB P e p.1 ((o.map fun y=>bk y.1).getD i 0)∧p.1.length=P.cellsOf e∧B72 w Hp p.1 p.2∧∀j,j<P.cellsOf e→w.cell? ((a.add (i*P.cellsOf e)).add j)=some (p.2.getD j Go.undef):=by
      intro i;by_cases r:i<len
      ·have O:=V i r;have X:i<o.length:=by omega
       rw[D0p X,D0k]at O;obtain⟨ci,b9,c0⟩:=O;obtain⟨_,Y,c1⟩:=World.cells?_some b9;obtain⟨k1,ds,k2,k3,k4⟩:=ih e ci o[i] U c0 (A2B a9.2 _ (D1W.2 ⟨_,D0m X,rfl⟩));refine⟨(ds,ci),fun _=>⟨by rw[List.getD_eq_getElem?_getD,D0v,D0p X];exact k2,by rw[k3];exact k1,k4,fun j hj=>?_⟩⟩;rw[c1 j hj,List.getD_eq_getElem?_getD,D0p (by rw[Y];exact hj)];rfl
      ·exact⟨([],[]),fun h=>absurd h r⟩
     obtain⟨g,M⟩:=Classical.skolem.1 W;have T: ∀(i:Nat) (x:List D),((List.range len).map fun i=>(g i).1)[i]? =some x→i<len∧x=(g i).1:=fun i x hx=>by
      simp only[D0v,D0h]at hx;obtain⟨y,O,rfl⟩:=hx;have r:=(D0i.1 O).1;simp at r;rw[List.getElem?_range r]at O;cases O;exact⟨r,rfl⟩
     have I:((List.range len).map fun i=>(g i).1).length=len:=by simp
     refine⟨a6.symm,_,.sl ((List.range len).map fun i=>(g i).1) (fun i=>(o.map fun y=>bk y.1).getD i 0) _ A ?_ ?_ ?_ ?_,rfl,one rfl ?_⟩
     ·rw[I];refine D1e (D1E _ ?_) a9.1;omega
     ·intro i x r;obtain⟨c2,rfl⟩:=T i x r;exact(M i c2).1
     ·intro i r;rw[I]at r;rw[List.getD_eq_getElem?_getD,D0v,D0p (by omega)];exact hk.pos _
     ·have e1:((List.range len).map fun i=>(o.map fun y=>bk y.1).getD i 0)=(o.map (·.1)).map bk:=by
       rw[List.map_map,←hlen,←(show (o.map fun y=>bk y.1).length=o.length from D1H ..),A6q];rfl
      rw[I,e1];exact hk.slice _ _
     ·show R w Hp (.sl (P.cellsOf e) ((List.range len).map fun i=>(g i).1)) (.slice (some a) len cap);by_cases hz:len=0
      ·subst hz;exact .sl0 _ _ _
      ·have z:=(M 0 (by omega)).2.2.2 0 b7;rw[Nat.zero_mul]at z;have G:a.spot=none:=by
        have e0:(a.add 0).add 0=a:=rfl;rw[e0]at z;unfold World.cell? at z;split at z
        ·split at z
         ·cases z
         ·rename_i b0;cases c3:a.spot with
          |none=>rfl
          |some _=>rw[c3]at b0;exact absurd rfl b0
        ·cases z
       have b1:a.block<w.heap.size:=by
        have e0:(a.add 0).add 0=a:=rfl;rw[e0]at z;unfold World.cell? at z;by_cases c4:a.block<w.heap.size
        ·exact c4
        ·rw[Array.getElem?_eq_none (by omega)]at z;cases z
       have a0: ∀i j,i<len→j<P.cellsOf e→w.cell? ⟨a.block,a.off+i*P.cellsOf e+j,none⟩=some ((g i).2.getD j Go.undef):=fun i j r hj=>by
        have:=(M i r).2.2.2 j hj;rw[B1I G,B1I rfl]at this;exact this
       have hR:=R.sl (w:=w) (H:=Hp) (P.cellsOf e) ((List.range len).map fun i=>(g i).1) a.block a.off cap (fun i j=>(g i).2.getD j Go.undef) b1 (hH _)
        (fun i x hx=>by obtain⟨r,rfl⟩:=T i x hx;exact(M i r).2.1) (by rw[I];exact b8) (fun i j r hj=>a0 i j (by rw[I]at r;exact r) hj)
        (fun i x j d hx C=>by obtain⟨r,rfl⟩:=T i x hx;exact((M i r).2.2.1 j d C).1) (fun i x j d hx C=>by obtain⟨r,rfl⟩:=T i x hx;exact((M i r).2.2.1 j d C).2)
       rw[I]at hR;obtain⟨ab,ao,d3⟩:=a;simp only at G;subst G;exact hR
   |struct fs=>
    rw[A]at q;simp only[D0l,D0u,D09]at q;obtain⟨a4,b2⟩:=q;obtain⟨xs,m,hm,rfl,Y,c5,V⟩:=DataW.trod_struct A h;cases hm;have c6:(DataW.weightsEach P (fs.toList.map (·.type)) (xs.map (·.1))).all (· ≤reachBytes)=true:=by
     rw[DataW.weights,A]at hw;exact hw
    have W: ∀i:Nat,∃p:List D,∀f:Field,fs[i]? =some f→FitsB P f.type p ((xs.map fun y=>bk y.1).getD i 0)∧p.length=P.cellsOf f.type∧B72 w Hp p ((cs.drop f.offset).take (P.cellsOf f.type)):=by
     intro i;cases J:fs[i]? with
     |none=>exact⟨[],fun f h=>by cases h⟩
     |some f=>
      have r:=(D0x.1 J).1;have a5:i<xs.length:=by omega
      have O:=V i f J;rw[D0p a5]at O;have c7:f.type∈l:=by
       have:=b2 f (by rw[D1D];exact Array.mem_of_getElem? J);simpa using this
      have c8:=A0J c6 i f.type xs[i].1 (by simp[J]) (by simp[D0p a5]);obtain⟨k1,ds,k2,k3,k4⟩:=ih f.type _ xs[i] c7 O c8;refine⟨ds,fun f' L=>?_⟩;cases L;exact⟨by rw[List.getD_eq_getElem?_getD,D0v,D0p a5];exact k2,by rw[k3];exact k1,k4⟩
    obtain⟨g,M⟩:=Classical.skolem.1 W;have c9:((List.range fs.size).map g).length=fs.size:=by simp
    have b3: ∀(i:Nat) (f:Field) (p:List D),fs[i]? =some f→((List.range fs.size).map g)[i]? =some p→p=g i:=fun i f p J hp=>by
     have r:=(D0x.1 J).1;rw[D0v,List.getElem?_range r]at hp;cases hp;rfl
    obtain⟨_,hlen,b4⟩:=A73 (P:=P) (w:=w) (Hp:=Hp) (cs:=cs) fs.toList 0 (P.cellsOf t) ((List.range fs.size).map g) a4 (by omega) (by simp) (fun i f p J hp=>by
     have L:fs[i]? =some f:=by simpa using J
     have:=b3 i f p L hp;subst this;exact⟨(M i f L).2.1,(M i f L).2.2⟩)
    have e1:((List.range fs.size).map fun i=>(xs.map fun y=>bk y.1).getD i 0)=(xs.map (·.1)).map bk:=by
     rw[List.map_map,←c5,←(show (xs.map fun y=>bk y.1).length=xs.length from D1H ..),A6q];rfl
    refine⟨Y,_,.struct ((List.range fs.size).map g) (fun i=>(xs.map fun y=>bk y.1).getD i 0) _ A c9 (fun i f p J hp=>by have:=b3 i f p J hp;subst this;exact(M i f J).1) (fun i r=>by rw[List.getD_eq_getElem?_getD,D0v,D0p (by omega)];exact hk.pos _) (by rw[e1];exact hk.agg _),by omega,fun j d hd=>?_⟩;have:=b4 j d hd;rwa [Nat.zero_add]at this
   |_=>rw[A]at q;cases q
def A4j(P:Program)(t:TypeId)(x:D)(n:Nat):Prop:=match P.underlying t with
 |some (.struct _)=>∃ds,x= .agg ds∧FitsB P t ds n
 |_=>FitsB P t [x] n
theorem B45{bk:DataW H→Nat}(hk:C4C bk){l:List TypeId}(C:plainB P l=true){w:World}{base J:Nat}{sp:Nat→Bool}{q:Bool}{Hp:Heap}(L: ∀b,Hp.held b=false){t:TypeId}{v:Value}{d:DataW H}{ps:List MemPlace}(G:t∈l)
  (g:Value.okWide P w .any J t v) (h:DataW.Trod enc P w base sp q t v d ps) (hw:(d.weights P t).all (· ≤reachBytes)=true): ∃x,A4j P t x (bk d)∧R w Hp x v:=by
 obtain⟨n,hn⟩:=h;obtain⟨h1,ds,I,y,r⟩:=A66 hk C L n t v.cells.toList (d,ps) G hn hw;have o:A4i P l t=true:=D09.1 C t G;have j:(∀fs,P.underlying t≠some (.struct fs))→v.cells.toList= [v]→∃x,A4j P t x (bk d)∧R w Hp x v:=by
  intro z hv;rw[hv]at y r
  match ds,y with
  | [x],_=>
   refine⟨x,?_,(r 0 x rfl).2⟩;unfold A4j;split
   ·rename_i fs A;exact absurd A (z fs)
   ·exact I
 cases p:P.underlying t with
 |none=>unfold A4i at o;rw[p]at o;cases o
 |some u=>
  cases u with
  |bool=>obtain⟨b,rfl⟩:=okWide_bool p g;exact j (by simp[p]) rfl
  |int k=>obtain⟨m,rfl⟩:=okWide_int p g;exact j (by simp[p]) rfl
  |string=>obtain⟨s,rfl⟩:=okWide_string p g;exact j (by simp[p]) rfl
  |slice e=>obtain⟨a,len,cap,rfl⟩:=okWide_slice p g;exact j (by simp[p]) rfl
  |struct fs=>
   simp only[Value.okWide,p]at g;obtain⟨cs,rfl,hsz,_⟩:=g;refine⟨.agg ds,?_,.agg _ _ (by rw[y];rfl) (fun i d q=>(r i d q).1) (fun i d q=>?_)⟩
   ·unfold A4j;rw[p];exact⟨ds,rfl,I⟩
   ·have:=(r i d q).2;have e:(Value.agg cs).cells.toList.getD i Go.undef=cs.getD i Go.undef:=by
     show cs.toList.getD i Go.undef=_;simp
    rwa [e]at this
  |_=>unfold A4i at o;rw[p]at o;cases o
theorem A3x{t:TypeId}{fs:Array Field}{ds:List D}{n:Nat}(d:P.underlying t=some (.struct fs))(h:FitsB P t ds n): ∃(ps:List (List D)) (ns:Nat→Nat),ds=ps.flatten∧ps.length=fs.size∧(∀(i:Nat) (f:Field) (p:List D),fs[i]? =some f→ps[i]? =some p→FitsB P f.type p (ns i))∧(∀i,i<fs.size→1≤ns i)∧1+((List.range fs.size).map ns).sum≤n:=by
 cases h with
 |struct ps ns n h hl hp h1 hn=>rw[d]at h;cases h;exact⟨ps,ns,rfl,hl,hp,h1,hn⟩
 |bool b n h=>rw[d]at h;cases h
 |int m n h=>rw[d]at h;cases h
 |str s n h hs=>rw[d]at h;cases h
 |sl es ns n h=>rw[d]at h;cases h
theorem B79{t e:TypeId}{ds:List D}{n:Nat}(d:P.underlying t=some (.slice e))(h:FitsB P t ds n): ∃(es:List (List D)) (ns:Nat→Nat),ds= [.sl (P.cellsOf e) es]∧(∀(i:Nat) x,es[i]? =some x→FitsB P e x (ns i))∧(∀i,i<es.length→1≤ns i)∧1+((List.range es.length).map ns).sum≤n:=by
 cases h with
 |sl es ns n h hl he h1 hn=>rw[d]at h;cases h;exact⟨es,ns,rfl,he,h1,hn⟩
 |bool b n h=>rw[d]at h;cases h
 |int m n h=>rw[d]at h;cases h
 |str s n h hs=>rw[d]at h;cases h
 |struct ps ns n h=>rw[d]at h;cases h
theorem A1c{ns:Nat→Nat}{m:Nat}: ∀(k:Nat),(∀i,i<k→m≤ns i)→m*k≤((List.range k).map ns).sum
 |0,_=>by simp
 |k+1,h=>by
  have:=A1c (ns:=ns) (m:=m) k fun i d=>h i (by omega);have e:=h k (by omega);rw[List.range_succ,D1Y,List.sum_append,Nat.mul_add];simp only[D1p,List.map_nil,List.sum_cons,List.sum_nil,Nat.mul_one];omega
theorem B8A{α :Type}{f: α →List D}{p: α →Prop}{w: α →Nat}: ∀(es:List (List D)) (ns:Nat→Nat),(∀(i:Nat) x,es[i]? =some x→∃a,x=f a∧p a∧w a≤ns i)→∃l:List α,es=Rw f l∧(∀a∈l,p a)∧(l.map w).sum≤((List.range es.length).map ns).sum
 | [],_,_=>⟨[],rfl,by simp,by simp⟩
 |x::es,ns,h=>by
  obtain⟨a,rfl,d,hw⟩:=h 0 x rfl;obtain⟨l,rfl,hl,hs⟩:=B8A (f:=f) (p:=p) (w:=w) es (fun i=>ns (i+1)) fun i x hx=>h (i+1) x (by simpa using hx);refine⟨a::l,rfl,fun b hb=>(D00.1 hb).elim (fun e=>e ▸ d) (hl b),?_⟩;rw[D0d,List.range_succ_eq_map,D1p,D1p,List.sum_cons,List.sum_cons,List.map_map];exact Nat.add_le_add hw hs
end
end Go.Av
section
set_option maxRecDepth 100000
namespace Go.Fo
open Go Go.Av Go.Lexs Go.Lin
theorem C0T(l:List Fm):J0.wtL l=(l.map J0).sum:=by
 induction l with
 |nil=>rfl
 |cons f l d=>rw[J0.wtL,d,D1p,List.sum_cons]
end Go.Fo
namespace Go.Proofs.YtibphjonmikciaaGreatDoor
open Go Go.Av Go.Lexs Go.Lin Go.Fo
theorem B46{el:List D}{n:Nat}{a:LinV}(h:FitsB Tryz.prog 25 el n)(he:el=E5 a):3*a.t.length+4≤n:=by
 obtain⟨ps,ns,rfl,hl,hp,h1,hn⟩:=A3x Tryz.underlying25 h;obtain⟨x,y,z,rfl⟩:=A6p ps hl;obtain⟨es,ms,rfl,d,A,j⟩:=B79 (e:=114) (by kernel_rfl) (hp 0 _ _ rfl rfl);have e1:es=Rw N7 a.t:=by
  have:D.sl (Tryz.prog.cellsOf 114) es= .sl 2 (Rw N7 a.t):=by
   have:=congrArg (fun l:List D=>l[0]?) he;simpa [E5]using this
  injection this
 have key: ∀i,i<es.length→3≤ms i:=fun i o=>by
  obtain⟨qs,ks,_,C,_,p,q⟩:=A3x Tryz.underlying114 (d i _ (D0p o));have:=A1c (ns:=ks) (m:=1) 2 p;have hn:1+((List.range 2).map ks).sum≤ms i:=q;omega
 have:=A1c (ns:=ms) (m:=3) es.length key;have g:es.length=a.t.length:=by rw[e1,D6]
 have r:=h1 1 (by decide);have u:=h1 2 (by decide);have hn:1+((List.range 3).map ns).sum≤n:=hn;have hs:((List.range 3).map ns).sum=ns 0+(ns 1+(ns 2+0)):=rfl;rw[hs]at hn;rw[g]at this j;omega
def FmB(ds:List D)(n:Nat):Prop:=∃f,ds=C1 f∧FmFit f∧3*J0 f≤n
def C9V(ds:List D)(n:Nat):Prop:=∃l,ds= [.sl 7 (Rw C1 l)]∧l.length≤1466015503658∧(∀k∈l,FmFit k)∧3*J0.wtL l+1≤n
theorem B2Z{t:TypeId}{ds:List D}{n:Nat}(h:FitsB Tryz.prog t ds n):(t=28→FmB ds n)∧(t=26→C9V ds n):=by
 have x:reachBytes=140737488351232:=rfl;have g:Tryz.prog.underlying 28=_:=Tryz.underlying28;have j:Tryz.prog.underlying 26=some (.slice 28):=by kernel_rfl
 have z:Tryz.prog.cellsOf 28=7:=by kernel_rfl
 have A:Tryz.prog.bytesOf 28=96:=by kernel_rfl
 induction h with
 |bool b n h=>exact⟨(by rintro rfl;rw[g]at h;cases h),(by rintro rfl;rw[j]at h;cases h)⟩
 |int m n h hw=>exact⟨(by rintro rfl;rw[g]at h;cases h),(by rintro rfl;rw[j]at h;cases h)⟩
 |str s n h hs=>exact⟨(by rintro rfl;rw[g]at h;cases h),(by rintro rfl;rw[j]at h;cases h)⟩
 |sl es ns n h hl he h1 hn e=>
  refine⟨(by rintro rfl;rw[g]at h;cases h),?_⟩;rintro rfl;rw[j]at h;cases h;rw[A]at hl;obtain⟨l,rfl,d,hw⟩:=B8A (f:=C1) (p:=FmFit) (w:=fun f=>3*J0 f) es ns (fun i y C=>(e i y C).1 rfl);rw[D6]at hl;rw[z];refine⟨l,rfl,by omega,d,?_⟩;have:(l.map fun f=>3*J0 f).sum=3*J0.wtL l:=by
   rw[C0T];clear hw d hl he h1 hn e
   induction l with
   |nil=>rfl
   |cons f l e=>simp only[D1p,List.sum_cons,e];omega
  omega
 |struct ps ns n h hl hp h1 hn e=>
  refine⟨?_,(by rintro rfl;rw[j]at h;cases h)⟩;rintro rfl;rw[g]at h;cases h;obtain⟨T,U,V,W,X,rfl⟩:=B44 ps hl;obtain⟨o,rfl,ho⟩:=A3v (k:=.i64) (by kernel_rfl) (hp 0 _ _ rfl rfl).fits;obtain⟨m,rfl,hm⟩:=A3v (k:=.i64) (by kernel_rfl) (hp 1 _ _ rfl rfl).fits;obtain⟨a,q,G⟩:=B76 (hp 2 _ _ rfl rfl).fits;have I:=B46 (hp 2 _ _ rfl rfl) q;subst q;obtain⟨s,rfl,hs⟩:=B1J (by kernel_rfl) (hp 3 _ _ rfl rfl).fits;obtain⟨l,rfl,r,d,J⟩:=(e 4 _ _ rfl rfl).2 rfl;refine⟨.mk o m a s l,?_,.mk _ _ _ _ _ (A9D ho) (A9D hm) G (by omega) r d,?_⟩
  ·rw[M4];rfl
  ·have hn:1+((List.range 5).map ns).sum≤n:=hn;have u:((List.range 5).map ns).sum=ns 0+(ns 1+(ns 2+(ns 3+(ns 4+0)))):=rfl;have L:=h1 0 (by decide);have M:=h1 1 (by decide);have O:=h1 3 (by decide);rw[u]at hn;rw[K4];simp only[Fm.l,Fm.ks];omega
theorem A9G{x:D}{n:Nat}(h:A4j Tryz.prog 26 x n): ∃l:List Fm,x= .sl 7 (Rw C1 l)∧l.length≤1466015503658∧(∀f∈l,FmFit f)∧3*J0.wtL l≤n:=by
 unfold A4j at h;rw[show Tryz.prog.underlying 26=some (.slice 28)by kernel_rfl]at h;have hv:FitsB Tryz.prog 26 [x] n:=h;obtain⟨l,hx,h1,d,e⟩:=(B2Z hv).2 rfl;cases hx;exact⟨l,rfl,h1,d,by omega⟩
theorem C4D{H:Type}(d:DataW H):1≤Rows.uptoBulk d:=by
 cases d with
 |lit l=>cases l<;>simp[Rows.uptoBulk]
 |_=>simp[Rows.uptoBulk]
theorem B8B{H:Type}(l:List (DataW H)):Rows.uptoBulkAll l=(l.map Rows.uptoBulk).sum:=by
 induction l with
 |nil=>simp[Rows.uptoBulkAll]
 |cons x l d=>simp only[Rows.uptoBulkAll,d,D1p,List.sum_cons]
theorem C7D{H:Type}:C4C (H:=H) Rows.uptoBulk:=⟨C4D,fun es sp=>by simp only[Rows.uptoBulk,B8B];omega,fun ps=>by simp only[Rows.uptoBulk,B8B];omega⟩
end Go.Proofs.YtibphjonmikciaaGreatDoor
end
