/- Part of the proof: what the last text builds on. No condition stands here. -/
import Derived.Test.YtibphjonmikciaaGreatDoorProg
import Derived.Test.YtibphjonmikciaaGreatDoorRows
import Derived.Test.YtibphjonmikciaaGreatDoorCards
import Derived.Test.YtibphjonmikciaaGreatDoorTie
import Derived.Test.YtibphjonmikciaaGreatDoorAc5
set_option linter.unusedSimpArgs false
set_option linter.unusedVariables false
set_option maxRecDepth 20000
namespace Go.Fo
open Go Go.Av Go.Lexs Go.Lin
def A5N(f:Fm):Bool:=I0 (fun g=>D6 g&&decide (g.ks.length≤1000)) f
theorem Y2: ∀f:Fm,A5N f=true→I0 D6 f=true∧FmFit f:=by
 intro f
 induction f using S6 with
 |h o n l s ks i=>
  intro h;unfold A5N at h;rw[A1d,D0n,D0n]at h;obtain⟨⟨h1,d⟩,e⟩:=h;have d:=D0b d;have e:=D1B.1 e;have d:ks.length≤1000:=d;have hk: ∀k∈ks,I0 D6 k=true∧FmFit k:=fun k hk=>i k hk (e k hk);have j:I0 D6 (.mk o n l s ks)=true:=by
   rw[A1d,D0n];exact⟨h1,D1B.2 fun k hm=>(hk k hm).1⟩
  refine⟨j,?_⟩;cases B67 h1 with
  |con n h=>exact .mk _ _ _ _ _ (by simp[Y4]) (by rcases h with rfl|rfl<;>simp[Y4]) A1i (by decide) (by simp) (by simp)
  |lin l h hp=>
   have ok:=L7 h;refine A2F ⟨by have:=ok.len;omega,fun t g=>?_,fun t g=>?_,?_⟩
   ·have:=A3J (N1 ok.t t g).1;omega
   ·have:=(N1 ok.t t g).2.2;unfold Y4;omega
   ·have:=ok.k;unfold Y4;omega
  |var s h=>exact .mk _ _ _ _ _ (by simp[Y4]) (by simp[Y4]) A1i (by have:=A3J (A6b h);omega) (by simp) (by simp)
  |not k=>exact T8 (by simp[Y4]) (by simp) fun q hq=>(hk q hq).2
  |and ks=>exact T8 (by simp[Y4]) (by omega) fun q hq=>(hk q hq).2
  |or ks=>exact T8 (by simp[Y4]) (by omega) fun q hq=>(hk q hq).2
theorem B7o{P:Program}{K:Env→Heap→Prop}{E:Env}{H:Heap}{d:List (Option Nat)}{ops:List Oper}(E0:Env)(H0:Heap)(hw:A02 E0 H0 E H)(h:Av.wpOps P d K ops E0 H0):A4u P d ops K E H (some .wk):=⟨E0,H0,hw,h⟩
theorem B41{H0:Heap}{E j:Env}{x b sz:Nat}{es:List (List D)}{cs cs':List D}(m:Av.Sub j E)(hx:H0 x=none)(g:b≠x)(hl:cs.length=cs'.length)(o: ∀(i:Nat) d d',cs[i]? =some d→cs'[i]? =some d'→Fz x sz es d d'):
  A02 j (H0.set b (.box cs')) E ((H0.set x (.vec sz es)).set b (.box cs)):=by
 refine A12 (b:=x) (sz:=sz) (es:=es) (by rw[A4 _ g.symm];exact A2 _ _) (B6I m) (fun k o' ho=>?_);by_cases hk:k=b
 ·subst hk;rw[A2]at ho;cases ho;exact⟨g,_,A2 _ _,.box _ _ _ hl o⟩
 ·rw[A4 _ hk]at ho;have h:k≠x:=fun e=>by rw[e,hx]at ho;cases ho
  exact⟨h,o',by rw[A4 _ hk,A4 _ h];exact ho,.same _⟩
theorem A89{G H:Heap}{b sz:Nat}{es:List (List D)}{ob:Option Nat}{rd:List D}(q:OutIn G sz es ob H)(d:G b=none)(hb:H b=some (.box rd))(X:Av.Obj):OutIn G sz es ob (H.set b X):=by
 refine⟨fun k o hk=>?_,?_,q.2.2⟩
 ·have:k≠b:=fun e=>by rw[e,d]at hk;cases hk
  rw[A4 _ this];exact q.1 k o hk
 ·cases ob with
  |none=>exact q.2.1
  |some c=>
   have hc:H c=some (.vec sz es):=q.2.1;have:c≠b:=fun e=>by rw[e,hb]at hc;cases hc
   show (H.set b X) c=_;rw[A4 _ this];exact hc
theorem B7p(a b:Fm):P4 (C1 a) 0 (C1 b)=C1 b:=by rw[N7 a];exact B9d _ _ _ _ _ _ _ _
theorem A72{G d:Heap}{i y e sz:Nat}{ob:Option Nat}{es:List (List D)}{c rd:List D}{o:Av.Obj}(q:OutIn G sz es ob d)(g:d i=some (.box rd))(j:d y=none)(m:G e=none)(h:K1 (d.set y o) ob e=none):
  ((K1 (d.set y o) ob).set e (.vec sz (es++[c]))) i=some (.box rd)∧OutIn G sz (es++[c]) (some e) ((K1 (d.set y o) ob).set e (.vec sz (es++[c]))):=B7m q g j m h
def A48:Fm:=fxL (-1) true
theorem A2J:A5N fxF=true∧A5N fxP=true∧A5N fxN=true∧A5N fxA=true∧A5N fxS=true∧A5N A4i=true∧A5N fxV=true∧A5N (A1I [fxF,normF fxP true])=true∧A5N (A1I [fxF,normF fxF true])=true∧A5N A48=true:=by decide+kernel
theorem B1F:J3 fxF≤1000∧J3 fxP≤1000∧J3 fxN≤1000∧J3 fxA≤1000:=by decide+kernel
theorem B7q:upS (D3 fxF++C5 fxF)= [nB,nX]:=by decide+kernel
theorem A6q:C5 fxF= [nB]∧nX≠nB∧G4 (B nX)=true:=by decide+kernel
theorem C7D:nB∈J7 (C5 fxF)∧nX∉J7 (C5 fxF):=by
 rw[G6,G6,A6q.1];exact⟨by simp,by simp[A6q.2.1]⟩
theorem A9A:meetL (D3.intsL [fxF,fxP]) (C5.boolsL [fxF,fxP])=false∧(upS (D3.intsL [fxF,fxP])).length+(upS (C5.boolsL [fxF,fxP])).length≤12∧meetL (D3.intsL [fxF,fxF]) (C5.boolsL [fxF,fxF])=false∧(upS (D3.intsL [fxF,fxF])).length+(upS (C5.boolsL [fxF,fxF])).length≤12:=by decide+kernel
end Go.Fo
namespace Go.Proofs.YtibphjonmikciaaGreatDoor
open Go Go.Av Go.Lexs Go.Lin Go.Fo
attribute [local irreducible] ACalls S7
theorem B7r{Q}(f:Fm)(d:FmFit f)(g:VOk f)(hv:E8 f=true)(b:Bool)(hs:Y0 f []=some b)(H:Heap)(h:Q (.tuple [.bool b,.int .i64 0]) H):D8 31 [.agg (C1 f)] H Q:=by
 refine A9 [] A5 Tryz.func31 rfl ?_;simp only[go_sem,seval,Tryz.results31];have e:=fun(Q:D→Heap→Prop) (H:Heap)=>R9 (Q:=Q) f d g H;rw[hv]at e;repeat' (first|simp only[go_sem,seval]|intro i|with_reducible refine e _ _ ?_)
 refine A0g 3 ?_;refine A3y f (N0 hv) d [] (by simp) b hs _ ?_;repeat' simp only[go_sem,seval]
 exact D12 (A0 (by assumption)) h
theorem C0A{Q}(f g:Fm)(p:FmFit f)(q:FmFit g)(z:VOk f)(A:VOk g)(r:E8 f=true)(u:E8 g=true)(hm:meetL (D3.intsL [f,g]) (C5.boolsL [f,g])=false)(hl:(upS (D3.intsL [f,g])).length+(upS (C5.boolsL [f,g])).length≤12)
  (b:Bool) (hs:Y0 (.mk 5 0 nilL D7 [f,normF g true]) []=some b) (hn:I0 D6 (.mk 5 0 nilL D7 [f,normF g true])=true) (H:Heap) (h:Q (.tuple [.bool (!b),.int .i64 0]) H):D8 37 [.agg (C1 f),.agg (C1 g)] H Q:=by
 refine A9 [] A5 Tryz.func37 rfl ?_;simp only[go_sem,seval,Tryz.results37];intro d C i m;simp only[A6]at m;have o:d≠i:=fun e=>m.1 e.symm;have x:((H.set d (.box (C1 f))).set i (.box (C1 g))) d=some (.box (C1 f)):=by rw[A4 _ o,A2]
 have y:((H.set d (.box (C1 f))).set i (.box (C1 g))) i=some (.box (C1 g)):=A2 _ _;have j:H.Le ((H.set d (.box (C1 f))).set i (.box (C1 g))):=(A0 C).trans (A0 (by simp only[A6];exact m));generalize (H.set d (.box (C1 f))).set i (.box (C1 g))=Bs at x y j⊢;repeat' (first|simp only[go_sem,seval,x,y]|with_reducible refine C1i f g p q z A r u hm hl _ ?_|with_reducible refine A7z f g (N0 r) p (N0 u) q b hs hn _ ?_)
 exact D12 j h
theorem C0B{Q}(f:Fm)(j:FmFit f)(q:VOk f)(m:E8 f=true)(hm:meetL (D3.intsL [f,f]) (C5.boolsL [f,f])=false)(hl:(upS (D3.intsL [f,f])).length+(upS (C5.boolsL [f,f])).length≤12)
  (hs:Y0 (.mk 5 0 nilL D7 [f,normF f true]) []=some false) (hn:I0 D6 (.mk 5 0 nilL D7 [f,normF f true])=true) (H:Heap) (h:Q (.tuple [.bool true,.int .i64 0]) H):D8 38 [.agg (C1 f),.agg (C1 f)] H Q:=by
 refine A9 [] A5 Tryz.func38 rfl ?_;simp only[go_sem,seval,Tryz.results38];intro d y g o;simp only[A6]at o;have p:d≠g:=fun e=>o.1 e.symm;have r:((H.set d (.box (C1 f))).set g (.box (C1 f))) d=some (.box (C1 f)):=by rw[A4 _ p,A2]
 have u:((H.set d (.box (C1 f))).set g (.box (C1 f))) g=some (.box (C1 f)):=A2 _ _;have i:H.Le ((H.set d (.box (C1 f))).set g (.box (C1 f))):=(A0 y).trans (A0 (by simp only[A6];exact o));generalize (H.set d (.box (C1 f))).set g (.box (C1 f))=Bs at r u i⊢;have x:=fun(Q:D→Heap→Prop) (H:Heap)=>A7z (Q:=Q) f f (N0 m) j (N0 m) j false hs hn H;simp only[D1z]at x;repeat' (first|simp only[go_sem,seval,r,u]|with_reducible refine C1i f f j j q q m m hm hl _ ?_|with_reducible refine x _ _ ?_)
 exact D12 i h
theorem B1G{Q}(so g:Fm)(o:Nat)(H:Heap)(r:H o=some (.box (C1 so)))(h:Q (.agg (C1 (A1I [so,g]))) H):D8 74 [.agg (C1 g),.box o 0] H Q:=by
 refine A9 [] A5 Tryz.func74 rfl ?_;simp only[go_sem,seval,Tryz.results74];intro d u i m;simp only[A6]at m;have y:d≠i:=fun e=>m.1 e.symm;have z:o≠d:=fun e=>by rw[←e,r]at u;cases u
 have A:o≠i:=fun e=>by rw[←e,r]at m;cases m.2
 obtain⟨Z,C⟩: ∃Z:List D,Z= [.int .i64 0,.int .i64 0,.nilsl,.int .i64 0,.bool false,.str ⟨#[]⟩,.nilsl]:=⟨_,rfl⟩
 rw[←C];have G:((H.set d (.box (C1 g))).set i (.box Z)) d=some (.box (C1 g)):=by rw[A4 _ y,A2]
 have q:((H.set d (.box (C1 g))).set i (.box Z)) i=some (.box Z):=A2 _ _;have I:((H.set d (.box (C1 g))).set i (.box Z)) o=some (.box (C1 so)):=by rw[A4 _ A,A4 _ z];exact r
 have p:H.Le ((H.set d (.box (C1 g))).set i (.box Z)):=(A0 u).trans (A0 (by simp only[A6];exact m));generalize (H.set d (.box (C1 g))).set i (.box Z)=Bs at G q I p⊢;rw[C]at q;repeat' (first|simp only[go_sem,seval,G,q,I]|simp(disch:=first|omega|grind) only[C0]|(intro j;try simp only[A6]at j))
 rename_i x;have hx:=j;clear j;exact B2T (es:=[C1 so,C1 g]) [so,g] rfl rfl p m.2 q hx _ h
theorem B7s{Q}(so:Fm)(e:I0 D6 so=true)(g:FmFit so)(more:List LinV)(hm:more.length≤1000)(b:Bool)(hs:Y0 so more=some b)(d:Nat)(H:Heap)(i:H d=some (.box (C1 so)))(h:Q (.bool b) H):D8 77 [.sl 3 (Rw D9 more),.box d 0] H Q:=by
 refine A9 [] A5 Tryz.func77 rfl ?_;simp only[go_sem,seval,Tryz.results77];repeat' (first|simp only[go_sem,seval,i]|with_reducible refine A3y so e g more hm b hs _ ?_)
 exact D15 h
abbrev vW:List D:=[.int .i64 3,.int .i64 0,.nilsl,.int .i64 0,.bool false,.str nB,.nilsl]
abbrev noW(d:D):List D:=[.int .i64 4,.int .i64 0,.nilsl,.int .i64 0,.bool false,.str ⟨#[]⟩,d]
theorem C33:NilR (.agg (noW (.sl 7 [vW]))) (.agg (C1 A4i)):=by
 rw[show C1 A4i= [.int .i64 4,.int .i64 0,.sl 2 [],.int .i64 0,.bool false,.str ⟨#[]⟩,.sl 7 (Rw C1 [fxV])]from N7 _];refine B2A (.nil 2) (.sl 7 _ _ rfl (fun i e e' h1 m=>?_) (fun i e e' j d d' h1 m g h=>?_))
 ·match i with
  |0=>cases h1;cases m;rfl
  |i+1=>cases h1
 ·match i with
  |0=>
   cases h1;cases m;rw[show C1 fxV= [.int .i64 3,.int .i64 0,.sl 2 [],.int .i64 0,.bool false,.str nB,.sl 7 []]from N7 _]at h
   match j with
   |0=>cases g;cases h;exact .same _
   |1=>cases g;cases h;exact .same _
   |2=>cases g;cases h;exact .nil 2
   |3=>cases g;cases h;exact .same _
   |4=>cases g;cases h;exact .same _
   |5=>cases g;cases h;exact .same _
   |6=>cases g;cases h;exact .nil 7
   |j+7=>cases g
  |i+1=>cases h1
theorem C1j{Q}(so:Fm)(e:Nat)(H:Heap)(j:H e=some (.box (C1 so)))(h:Q (.agg (C1 (A1I [so,A4i]))) H):D8 74 [.agg (noW (.sl 7 [vW])),.box e 0] H Q:=by
 refine R1 (args':=[.agg (C1 A4i),.box e 0]) rfl (fun i d d' h1 g=>?_) (B1G so A4i e H j h)
 match i with
 |0=>cases h1;cases g;exact C33
 |1=>cases h1;cases g;exact .same _
 |i+2=>cases h1
theorem K7:E8 fxF=true∧FmFit fxF∧VOk fxF∧I0 D6 fxF=true:=⟨R0.1,(Y2 _ A2J.1).2,.inl (by have:=B1F.1;omega),(Y2 _ A2J.1).1⟩
def C9Q:Nat→Fm
 |0=>fxF
 |1=>fxS
 |_=>A1I [fxS,A48]
set_option maxHeartbeats 4000000 in
theorem B7t{Q}(H:Heap)(h:Q (.tuple [.sl 2 (Rw vlC fxVals),.int .i64 0]) H):D8 32 [.agg (C1 fxF)] H Q:=by
 refine A9 [(15,.wk)] A5 Tryz.func32 rfl ?_;simp only[go_sem,seval,Tryz.results32];obtain⟨hv,fa,vo,b4⟩:=K7;have vc:=fun(Q:D→Heap→Prop) (H:Heap)=>R9 (Q:=Q) fxF fa vo H;rw[hv]at vc;intro b1 h1;have e1:(H.set b1 (.box (C1 fxF))) b1=some (.box (C1 fxF)):=A2 _ _;have U:H.Le (H.set b1 (.box (C1 fxF))):=A0 h1;have W:=A4j.1;have a4:=B96;have a5:=A4j.2.2.2.2;have a6:=C7D;have V:=B7q;have u:=A2J;generalize hF:fxF=F at e1 U vc hv fa vo b4 W a6 V⊢;generalize H.set b1 (.box (C1 F))=Bs at e1 U⊢;repeat' (first|simp only[go_sem,seval,e1]|with_reducible refine vc _ _ ?_)
 refine A0g 3 ?_;refine A3y F b4 fa [] (by simp) true W _ ?_;repeat' (first|simp only[go_sem,seval,e1]|(intro g;try simp only[A6]at g))
 rename_i x;have hx:=g;clear g;refine A3x hx F fa rfl ?_;repeat' (first|simp only[go_sem,seval,e1]|(intro g;try simp only[A6]at g))
 rename_i m;have h7:=g;clear g;have d0:b1≠m:=fun e=>by rw[←e,e1]at h7;cases h7
 have c7:(Bs.set m (.box (C1 F))) m=some (.box (C1 F)):=A2 _ _;have Y:H.Le (Bs.set m (.box (C1 F))):=U.trans (A0 h7);have b6:H m=none:=U.none h7;generalize Bs.set m (.box (C1 F))=Cs at c7 Y⊢;refine B7g _ _ (A1e _) _ fun K hK a9=>?_;have d2:K.length≤2:=by
  have:K.length= [nB,nX].length:=((List.perm_ext_iff_of_nodup hK (by decide+kernel)).2 fun y=>by rw[a9,G6,G6,←D00,←Q3,V]).length_eq;have d3: [nB,nX].length=2:=rfl;omega
 repeat' simp only[go_sem,seval]
 refine A82 _ _ fun bk b0=>?_;repeat' simp only[go_sem,seval]
 refine A83 bk tt K (by omega) (fun s hs=>by
  have:s∈[nB,nX]:=by rw[←V,Q3,D00,←G6,←G6 (C5 F),←a9];exact hs
  simp only[D02,D03,or_false]at this;rcases this with rfl|rfl<;>decide) _ (A2 _ _) fun v c1 hm=>?_
 have ev:v= [nB,nX]:=by
  rw[←V];exact A6F c1 (A8t _) fun s=>by rw[hm,a9,G6,G6,Q3,D00]
 rw[ev];have c2:m≠bk:=fun e=>by rw[←e,c7]at b0;cases b0
 have I:(Cs.set bk (.box [.fm (D2 tt K)])) m=some (.box (C1 F)):=by rw[A4 _ c2];exact c7
 have a0:H.Le (Cs.set bk (.box [.fm (D2 tt K)])):=Y.trans (A0 b0);generalize Cs.set bk (.box [.fm (D2 tt K)])=Ds at I a0⊢;have hlen:(Rw F3 [nB,nX]).length=2:=rfl;repeat' simp only[go_sem,seval,hlen]
 refine C4 [5,7,8,31,32] (fun(p:Nat×Option Nat×Heap)=>[(33,.int .i64 p.1),(6,H6 2 p.1 p.2.1)]) (fun(p:Nat×Option Nat×Heap)=>p.2.2) (fun(p:Nat×Option Nat×Heap)=>p.1≤2∧p.2.2 m=some (.box (C1 (C9Q p.1)))∧OutIn H 2 (Rw vlC (fxVals.take p.1)) p.2.1 p.2.2) (fun(p:Nat×Option Nat×Heap)=>2-p.1) ((0,none,Ds)) (⟨D0v _,by show Ds m=_;rw[I,←hF];rfl,a0,rfl,fun _ e=>(by cases e)⟩) (by(try simp only[go_sem,seval])<;>(try simp(disch:=omega) [A3])) (by first|exact D11 _|exact A0 (by assumption)|exact B2 (by assumption)|simp only[Heap.Le,Heap.set,Heap.del]at* <;>grind) ?_;rintro Ec rfl ⟨k,ob,Hp⟩ ⟨hk,A,J⟩;simp only at hk A J
 match k,hk,A,J with
 |0,hk,A,J=>
  have r0:(Rw F3 [nB,nX]).getD 0 []= [.str nB]:=rfl;repeat' (first|with_reducible apply D0a|simp only[go_sem,seval,r0,A,A2g,if_pos a6.1]|(intro g;try simp only[A6]at g)|omega)
  rename_i j o x hx q;have r:=g;clear g;have c7: ∀X:Av.Obj,((Hp.set j (.box [.str nB,.int .i64 0])).set q X) m=some (.box (C1 fxF)):=fun X=>by
   rw[A4 _ (fun e=>by rw[←e,A]at r;cases r.2.2),A4 _ (fun e=>by rw[←e,A]at o;cases o)];exact A
  have c3: ∀X:Av.Obj,((Hp.set j (.box [.str nB,.int .i64 0])).set q X) j=some (.box [.str nB,.int .i64 0]):=fun X=>by
   rw[A4 _ (fun e=>by rw[e]at r;exact r.2.1 rfl)];exact A2 _ _
  have c4:=(J.set o (.box [.str nB,.int .i64 0])).set (b:=q) (A6.2 ⟨r.2.1,r.2.2⟩);refine B7o [(5,.fm (D2 tt (J7 (C5 F)))),(7,.box m 0),(8,.fn (.func 74) [] [.box m 0]),(31,.sl 1 (Rw F3 [nB,nX])),(32,.int .i64 2),(33,.int .i64 0),(6,H6 2 0 ob),(10,.str nB),(11,.box j 0),(12,.box q 0)] ((Hp.set j (.box [.str nB,.int .i64 0])).set q (.box (noW (.sl 7 [vW])))) (B41 (cs:=noW (.vec x 7 0 1)) (by(try simp only[go_sem,seval])<;>(try simp(disch:=omega) [A3])) (A6.2 hx) r.1 rfl (fun i d d' h1 h2=>?_)) ?_
  ·match i with
   |0=>cases h1;cases h2;exact .same _
   |1=>cases h1;cases h2;exact .same _
   |2=>cases h1;cases h2;exact .same _
   |3=>cases h1;cases h2;exact .same _
   |4=>cases h1;cases h2;exact .same _
   |5=>cases h1;cases h2;exact .same _
   |6=>cases h1;cases h2;exact .all
   |i+7=>cases h1
  have I:=c7 (.box (noW (.sl 7 [vW])));have C:=c3 (.box (noW (.sl 7 [vW])));have d12:((Hp.set j (.box [.str nB,.int .i64 0])).set q (.box (noW (.sl 7 [vW])))) q=some (.box (noW (.sl 7 [vW]))):=A2 _ _;have L:=c4 (.box (noW (.sl 7 [vW])));have M:m≠j:=fun e=>by rw[←e,A]at o;cases o
  generalize (Hp.set j (.box [.str nB,.int .i64 0])).set q (.box (noW (.sl 7 [vW])))=T at I C d12 L⊢;repeat' (first|simp only[go_sem,seval,d12]|with_reducible refine C1j fxF m T I ?_)
  refine A0g 3 ?_;refine A3y fxS (Y2 _ u.2.2.2.2.1).1 (Y2 _ u.2.2.2.2.1).2 [] (by simp) true a5 _ ?_;repeat' (first|simp only[go_sem,seval,I,C,d12,B7p]|simp(disch:=first|omega|grind) only[C0]|(intro g;try simp only[A6]at g)|with_reducible refine C1j fxF m T I ?_)
  rename_i y;have hy:(T.set m (.box (C1 (A1I [fxF,A4i])))) y=none:=A6.2 g;clear g;have f7:(T.set m (.box (C1 (A1I [fxF,A4i])))) m=some (.box (C1 (A1I [fxF,A4i]))):=A2 _ _;have G:=A89 L b6 I (.box (C1 (A1I [fxF,A4i])));generalize T.set m (.box (C1 (A1I [fxF,A4i])))=Gt at f7 hy G⊢;refine B6H (G.set hy _) (by simp) rfl (by simp) (by simp) fun b' b2 b3 b8=>?_;obtain⟨g7,O⟩:=A72 (c:=[.str nB,.int .i64 0]) G f7 hy b2 b3;repeat' (first|simp only[go_sem,seval]|simp(disch:=omega) only[A3,A8,C3])
  exact C2 (1,some b',_) ⟨by simp,g7,O⟩ (by simp) (by(try simp only[go_sem,seval])<;>(try simp(disch:=omega) [A3])) (D11 _)
 |1,hk,A,J=>
  have r1:(Rw F3 [nB,nX]).getD 1 []= [.str nX]:=rfl;repeat' (first|with_reducible apply D0a|simp only[go_sem,seval,r1,A,A2g,if_neg a6.2]|(intro g;try simp only[A6]at g)|omega)
  rename_i j;have o:=g;clear g;have M:m≠j:=fun e=>by rw[←e,A]at o;cases o
  have I:(Hp.set j (.box [.str nX,.int .i64 0])) m=some (.box (C1 fxS)):=by rw[A4 _ M];exact A
  have C:(Hp.set j (.box [.str nX,.int .i64 0])) j=some (.box [.str nX,.int .i64 0]):=A2 _ _;have L:=J.set o (.box [.str nX,.int .i64 0]);generalize Hp.set j (.box [.str nX,.int .i64 0])=T at I C L⊢;refine B4c (fun more=>Y0 fxS more) nX A6q.2.2 77 [.box m 0] T (fun more bb c5 c9 d4 H' Q c6 hq=>B7s fxS (Y2 _ u.2.2.2.2.1).1 (Y2 _ u.2.2.2.2.1).2 more (by omega) bb c5 m H' (c6 _ _ I) hq) 1 a4 ?_;repeat' (first|simp only[go_sem,seval,C]|simp(disch:=omega) only[A3,A8,C3]|simp(disch:=first|omega|grind) only[C0]|(intro g;try simp only[A6]at g))
  rename_i z;have hz:=g;clear g;have b9:H j=none:=J.1.none o;have f7:(T.set j (.box [.str nX,.int .i64 1])) m=some (.box (C1 fxS)):=by rw[A4 _ M];exact I
  have c0:(T.set j (.box [.str nX,.int .i64 1])) j=some (.box [.str nX,.int .i64 1]):=A2 _ _;have G:=A89 L b9 C (.box [.str nX,.int .i64 1]);refine A5O (A2 _ _) rfl ?_;rw[E3 (A6.2 hz)];generalize T.set j (.box [.str nX,.int .i64 1])=Gt at f7 c0 G⊢;refine A4h ⟨[⟨nX,1⟩],-1,true⟩ _ ?_;repeat' simp only[go_sem,seval]
  refine B1G fxS A48 m Gt f7 ?_;repeat' (first|simp only[go_sem,seval,f7,c0,B7p]|simp(disch:=first|omega|grind) only[C0]|(intro g;try simp only[A6]at g))
  rename_i y;have hy:(Gt.set m (.box (C1 (A1I [fxS,A48])))) y=none:=A6.2 g;clear g;have g7:(Gt.set m (.box (C1 (A1I [fxS,A48])))) m=some (.box (C1 (A1I [fxS,A48]))):=A2 _ _;have O:=A89 G b6 f7 (.box (C1 (A1I [fxS,A48])));generalize Gt.set m (.box (C1 (A1I [fxS,A48])))=Gu at g7 hy O⊢;refine B6H (O.set hy _) (by simp) rfl (by simp) (by simp) fun b' b2 b3 b8=>?_;obtain⟨k7,c8⟩:=A72 (c:=[.str nX,.int .i64 1]) O g7 hy b2 b3;repeat' (first|simp only[go_sem,seval]|simp(disch:=omega) only[A3,A8,C3])
  exact C2 (2,some b',_) ⟨by simp,k7,c8⟩ (by simp) (by(try simp only[go_sem,seval])<;>(try simp(disch:=omega) [A3])) (D11 _)
 |2,hk,A,J=>
  repeat' (first|with_reducible apply D0a|simp only[go_sem,seval]|simp(disch:=omega) only[A3,A8,C3]|(intro g;try simp only[A6]at g)|omega)
  have e2:fxVals.take 2=fxVals:=rfl;rw[e2]at J;refine A6x (n:=2) rfl J.2.1 (D12 J.le h)
 |k+3,hk,_,_=>omega
theorem C34{Q}(G:Heap)(l:List ByteArray)(hl:l.length≤1000000000)(s:ByteArray)(b:Nat)(Hp:Heap)(hb:Hp b=some (.vec 1 (Rw F3 l)))(hG:G.Le Hp)(gb:G b=none)
  (h: ∀ob' Hp',OutIn G 1 (Rw F3 (E9 l s)) ob' Hp'→Q (H6 1 (E9 l s).length ob') Hp'):D8 90 [.vec b 1 0 l.length,.str s] Hp Q:=by
 refine A9 [(6,.wk),(7,.par)] A5 Tryz.func90 rfl ?_;simp only[go_sem,seval,Tryz.results90];have hz:Fz b 1 (Rw F3 l) (.vec b 1 0 l.length) (.sl 1 (Rw F3 l)):=by
  have:=Fz.all (b:=b) (sz:=1) (es:=Rw F3 l);rwa [D5]at this
 have y:G.Le (Hp.del b):=fun k o hk=>by rw[F1 (fun e=>by rw[e,gb]at hk;cases hk)];exact hG k o hk
 refine C4 [0,1] (fun(i:Nat)=>[(5,.int .i64 i)]) (fun(i:Nat)=>Hp) (fun(i:Nat)=>i≤l.length∧∀(k:Nat) (hk:k<l.length),k<i→S4 l[k] s=true) (fun(i:Nat)=>l.length-i) (0) (⟨D0v _,fun _ _ h=>by omega⟩) (by(try simp only[go_sem,seval])<;>(try simp(disch:=omega) [A3])) (by first|exact D11 _|exact A0 (by assumption)|exact B2 (by assumption)|simp only[Heap.Le,Heap.set,Heap.del]at* <;>grind) ?_;rintro Ec rfl i ⟨I,r⟩;have z: ∀(d:i<l.length),S4 l[i] s=true→∀(k:Nat) (hk:k<l.length),k<i+1→S4 l[k] s=true:=fun d c k hk a4=>(Nat.lt_or_ge k i).elim (fun g=>r k hk g) (fun g=>by have:k=i:=(by omega);subst this;exact c)
 have J: ∀{E:Env},Av.Sub [(0,.vec b 1 0 l.length),(1,.str s),(5,.int .i64 i)] E→A02 [(0,.sl 1 (Rw F3 l)),(1,.str s),(5,.int .i64 i)] (Hp.del b) E Hp:=fun T=>A12 hb (fun p hp=>by
   simp only[D02,D03,or_false]at hp;rcases hp with rfl|rfl|rfl
   ·rw[T.all _ (D0l ..)];exact hz
   ·rw[T.all _ (D0s _ (D0l ..))];exact .same _
   ·rw[T.all _ (D0s _ (D0s _ (D0l ..)))];exact .same _) fun k o ho=>(by
   have kb:k≠b:=fun e=>by rw[e,Heap.del,if_pos rfl]at ho;cases ho
   rw[F1 kb]at ho;exact⟨kb,o,ho,.same _⟩)
 apply P8 (C:=E9 l s=l.take i++[s]++l.drop i)
 ·intro hJ;by_cases d:i<l.length
  ·have u:decide ((i:Int)<l.length)=true:=D0c (by omega);have A:(i:Int)<l.length:=by omega
   by_cases c:S4 l[i] s=true
   ·have M:Op.bytesLess l[i].data.toList s.data.toList=true:=c;repeat' (first|with_reducible apply D0a|simp only[go_sem,seval,u,A,hb,A8 _ _ d,B4 _ _ d,M]|simp(disch:=omega) only[A3,C3,A0Q]|omega)
    exact C2 (i+1) ⟨by omega,z d c⟩ (by omega) (by(try simp only[go_sem,seval])<;>(try simp(disch:=omega) [A3])) (by simp only[D4,C9,D0]at* <;>grind)
   ·have c:S4 l[i] s=false:=by simpa using c
    have M:Op.bytesLess l[i].data.toList s.data.toList=false:=c;have e:=A0Q l s i I r (fun _=>c);by_cases q:l[i]=s
    ·rw[if_pos ⟨d,q⟩]at e;have U:decide (B l[i]=B s)=true:=D0c (by rw[q]);repeat' (first|with_reducible apply D0a|simp only[go_sem,seval,u,A,hb,A8 _ _ d,B4 _ _ d,M,U]|omega)
     have:=h (some b) Hp ⟨hG,by rw[e];exact hb,fun c hc=>by cases hc;exact gb⟩;rw[e]at this;exact D15 this
    ·rw[if_neg (fun g=>q g.2)]at e;have U:decide (B l[i]=B s)=false:=D0d fun g=>q (U7 g);repeat' (first|with_reducible apply D0a|simp only[go_sem,seval,u,A,A8 _ _ d,B4 _ _ d,M,U,hb]|omega)
     exact B7o [(0,.sl 1 (Rw F3 l)),(1,.str s),(5,.int .i64 i)] (Hp.del b) (J (by simp only[go_sem,seval])) (hJ e)
  ·have u:decide ((i:Int)<l.length)=false:=D0d (by omega);have e:=A0Q l s i I r (fun g=>absurd g (by omega));rw[if_neg (fun g=>absurd g.1 (by omega))]at e;repeat' simp only[go_sem,seval,u,hb]
   exact B7o [(0,.sl 1 (Rw F3 l)),(1,.str s),(5,.int .i64 i)] (Hp.del b) (J (by simp only[go_sem,seval])) (hJ e)
 intro e;generalize Hp.del b=H at y⊢;have hm:=Nat.min_eq_left I;repeat' (first|with_reducible apply D0a|simp only[go_sem,seval,t7,A1V,hm]|(intro j;try simp only[A6]at j)|omega)
 rename_i x8 h8 L;have h6:=j;clear j;rw[E3 h8]at h6⊢;refine F2 (fun _=>.undef) [] ?_;repeat' (first|simp only[go_sem,seval,t7,A1V]|(intro j;try simp only[A6]at j))
 rename_i V;have O:=j;clear j;have W:(H.set L (.vec 1 (Rw F3 (l.take i)))) V=none:=by rw[A4 _ O.1];exact O.2
 refine A6R 9 16 (n:=i) (m:=1) (bx:=V) (ob:=some L) (es:=Rw F3 (l.take i)) (xs:=[[.str s]]) (by simp only[go_sem,seval]) (by decide) (by simp only[go_sem,seval]) (by simp only[go_sem,seval]) (by simp only[go_sem,seval]) (by simp only[go_sem,seval]) (A2 _ _) rfl (by simp) (by show Heap.set _ V _ L=_;rw[A4 _ O.1.symm];exact A2 _ _) (N2 _ _ I).symm (by simp) (fun e=>O.1 (by injection e with e;exact e.symm)) (by simp) (by simp only[D0f,D0h];omega) (by simp only[D0f,D0h];omega) fun x2 X=>?_;rw[E3 W]at X⊢;rw[show K1 (H.set L (.vec 1 (Rw F3 (l.take i)))) (some L)=H from E3 h6]at X⊢;repeat' (first|with_reducible apply D0a|simp only[go_sem,seval,t7,A1V]|omega)
 have Y:(Rw F3 (l.take i)++[[D.str s]]).length=i+1:=by rw[D0g,N2 _ _ I];rfl
 refine A7a 9 16 (Rw F3 (l.drop i)) (b:=x2) (es:=Rw F3 (l.take i)++[[.str s]]) rfl (by simp only[go_sem,seval]) (by decide) (by simp only[go_sem,seval]) (by simp only[go_sem,seval]) ?_ ?_ rfl X (by simp) ?_ ?_ fun x hx=>?_
 ·simp only[go_sem,seval,Y]
 ·simp only[go_sem,seval,List.take_length]
 ·rw[Y,D5,D08];omega
 ·rw[Y,D5,D08];omega
 ·have hw:Rw F3 (l.take i)++[[D.str s]]++Rw F3 (l.drop i)=Rw F3 (E9 l s):=by rw[e];simp[Rw,F3]
  have a0:(Rw F3 (l.take i)++[[D.str s]]).length+(Rw F3 (l.drop i)).length=(E9 l s).length:=by rw[←D0g,hw,D5]
  rw[a0,hw];repeat' simp only[go_sem,seval]
  exact D15 (h (some x) _ ⟨y.trans (A0 hx),A2 _ _,fun c hc=>by cases hc;exact y.none hx⟩)
theorem C0C{Q}(G:Heap)(s:ByteArray)(H:Heap)(j:G.Le H)
  (h: ∀ob' Hp',OutIn G 1 (Rw F3 (E9 [] s)) ob' Hp'→Q (H6 1 (E9 [] s).length ob') Hp'):D8 90 [.nilsl,.str s] H Q:=
 R1 (args':=[.sl 1 [],.str s]) rfl (fun i d d' h1 g=>(match i,h1,g with
  |0,h1,g=>by cases h1;cases g;exact .nil _
  |1,h1,g=>by cases h1;cases g;exact .same _
  |i+2,h1,g=>by cases h1)) (B6t [] (by simp) s H (fun e=>by cases e) fun x hx=>h (some x) _ ⟨j.trans (A0 hx),A2 _ _,fun c hc=>by cases hc;exact j.none hx⟩)
theorem C0D{G Hp:Heap}{sz:Nat}{es:List (List D)}{ob:Option Nat}{b:Nat}{o:Av.Obj}(q:OutIn G sz es ob Hp)(hb:Hp b=none):OutIn (G.set b o) sz es ob (Hp.set b o):=by
 refine⟨fun k x hk=>?_,(q.set hb o).2.1,fun c hc=>?_⟩
 ·by_cases e:k=b
  ·subst e;rw[A2]at hk⊢;exact hk
  ·rw[A4 _ e]at hk⊢;exact q.1 k x hk
 ·have d:c≠b:=fun e=>by
   subst hc;have:Hp c=some (.vec sz es):=q.2.1;rw[e,hb]at this;cases this
  rw[A4 _ d];exact q.2.2 c hc
theorem C0E{Q}(G:Heap)(l:List ByteArray)(hl:l.length≤1000000000)(s:ByteArray)(ob:Option Nat)(Hp:Heap)(d:OutIn G 1 (Rw F3 l) ob Hp)
  (h: ∀ob' Hp',OutIn G 1 (Rw F3 (E9 l s)) ob' Hp'→Q (H6 1 (E9 l s).length ob') Hp'):D8 90 [H6 1 l.length ob,.str s] Hp Q:=by
 cases ob with
 |some b=>exact C34 G l hl s b Hp d.2.1 d.1 (d.2.2 b rfl) h
 |none=>
  have e:Rw F3 l= []:=d.2.1;have:l= []:=by cases l with|nil=>rfl|cons x l=>cases e
  subst this;exact C0C G s Hp d.1 h
end Go.Proofs.YtibphjonmikciaaGreatDoor
namespace Go.Fo
open Go Go.Av Go.Lexs Go.Lin
def B7u(f:Fm):Bool:=(decide (f.op=1)||decide (f.n=0))&&(decide (f.op=3)||decide (f.s.size=0))&&(decide (f.op=2)||lin0 f.l)
def B3o(f:Fm):Bool:=
 if f.op=1 then decide ((f.ks.length:Int)=0)&&(decide (f.n=0)||decide (f.n=1))
 else if f.op=2 then(f.l.t.all fun t=>plainB t.v)&&(decide ((f.ks.length:Int)=0)&&validL f.l)
 else if f.op=3 then decide ((f.ks.length:Int)=0)&&plainB f.s
 else if f.op=4 then decide ((f.ks.length:Int)=1)
 else decide (f.op=5)||decide (f.op=6)
theorem C0F(f:Fm):D6 f=(B7u f&&B3o f):=by
 unfold D6 B7u B3o;rw[B3g,B3h];by_cases o1:f.op=1
 ·simp only[o1,if_true,decide_true,Bool.true_or,Bool.true_and,show¬((1:Int)=3)by decide,show¬((1:Int)=2)by decide,decide_false,Bool.false_or];cases decide (f.n=0)<;>cases decide (f.n=1)<;>cases decide (f.s.size=0)<;>cases lin0 f.l<;>cases decide ((f.ks.length:Int)=0)<;>rfl
 by_cases o2:f.op=2
 ·simp only[o2,if_true,decide_true,Bool.true_or,Bool.and_true,show¬((2:Int)=3)by decide,show¬((2:Int)=1)by decide,decide_false,Bool.false_or,if_false];cases decide (f.n=0)<;>cases decide (f.s.size=0)<;>cases decide ((f.ks.length:Int)=0)<;>cases validL f.l<;>cases (f.l.t.all fun t=>plainB t.v)<;>rfl
 by_cases o3:f.op=3
 ·simp only[o3,if_true,decide_true,Bool.true_or,Bool.and_true,show¬((3:Int)=2)by decide,show¬((3:Int)=1)by decide,decide_false,Bool.false_or,if_false];cases decide (f.n=0)<;>cases lin0 f.l<;>cases decide ((f.ks.length:Int)=0)<;>cases plainB f.s<;>rfl
 simp only[o1,o2,o3,if_false,decide_false,Bool.false_or];by_cases d:f.op=4
 ·simp only[d,if_true]
 ·simp only[d,if_false];by_cases e:f.op=5
  ·simp[e]
  ·by_cases g:f.op=6
   ·simp[g]
   ·simp[e,g]
def a7(f:Fm)(deep:Int):Bool:=decide ((N9 f:Int)≤deep)&&I0 D6 f
theorem B42(f:Fm)(d:Int):a7 f d=(decide (1≤d)&&B7u f&&f.ks.all (fun k=>a7 k (d-1))&&B3o f):=by
 rw[Bool.eq_iff_iff];unfold a7;rw[A1d,C0F];simp only[D0n,D0w,D1B];constructor
 ·rintro⟨h1,⟨g,e⟩,h⟩;have:=(A3r f d.toNat).1 (by omega);exact⟨⟨⟨by omega,g⟩,fun k hk=>⟨by have:=this.2 k hk;omega,h k hk⟩⟩,e⟩
 ·rintro⟨⟨⟨h1,g⟩,e⟩,h⟩;have:=(A3r f d.toNat).2 ⟨by omega,fun k hk=>by have:=(e k hk).1;omega⟩;exact⟨by omega,⟨g,h⟩,fun k hk=>(e k hk).2⟩
end Go.Fo
namespace Go.Proofs.YtibphjonmikciaaGreatDoor
open Go Go.Av Go.Lexs Go.Lin Go.Fo
attribute [local irreducible] ACalls S7
theorem B7v{Q}(a:LinV)(r:S3 a)(H:Heap)(h:Q (.bool (lin0 a)) H):D8 60 [.agg (D9 a),.agg [.nilsl,.int .i64 0,.bool false]] H Q:=by
 refine A9 [(6,.par)] A5 Tryz.func60 rfl ?_;simp only[go_sem,seval,Tryz.results60];intro g u j p;simp only[A6]at p;have e2:((H.set g (.box (D9 a))).set j (.box [.nilsl,.int .i64 0,.bool false])) g=some (.box (D9 a)):=by rw[A4 _ p.1.symm,A2]
 have e3:((H.set g (.box (D9 a))).set j (.box [.nilsl,.int .i64 0,.bool false])) j=some (.box [.nilsl,.int .i64 0,.bool false]):=A2 _ _;have d:H.Le ((H.set g (.box (D9 a))).set j (.box [.nilsl,.int .i64 0,.bool false])):=(A0 u).trans (A0 (by simp only[A6];exact p));generalize (H.set g (.box (D9 a))).set j (.box [.nilsl,.int .i64 0,.bool false])=Bs at e2 e3 d⊢;have hlen:=r.len;have d1:decide (a.t= [])=decide ((a.t.length:Int)=0):=D1D.2 (by rw[←List.length_eq_zero_iff];omega);unfold lin0 at h;rw[d1]at h;by_cases o:a.k=0
 ·by_cases m:a.e=true
  ·repeat' simp only[go_sem,seval,e2,e3,o,m]
   all_goals (refine D12 d ?_;simp_all)
  ·have m:a.e=false:=by simpa using m
   by_cases t0:(a.t.length:Int)=0
   ·repeat' simp only[go_sem,seval,e2,e3,o,m,t0]
    refine C4 [2,3,29] (fun(i:Nat)=>[(30,.int .i64 i)]) (fun(i:Nat)=>Bs) (fun(i:Nat)=>i=0) (fun(i:Nat)=>0-i) (0) (rfl) (by(try simp only[go_sem,seval])<;>(try simp(disch:=omega) [A3])) (by first|exact D11 _|exact A0 (by assumption)|exact B2 (by assumption)|simp only[Heap.Le,Heap.set,Heap.del]at* <;>grind) ?_;rintro x rfl i y;have q:decide ((i:Int)<0)=false:=D0d (by omega);repeat' simp only[go_sem,seval,q]
    refine D12 d ?_;simp_all
   ·repeat' simp only[go_sem,seval,e2,e3,o,m,t0]
    all_goals (refine D12 d ?_;simp_all)
 ·repeat' simp only[go_sem,seval,e2,e3,o]
  all_goals (refine D12 d ?_;simp_all)
theorem C0G(n:Nat): ∀{Q} (f:Fm) (hn:SizeOf.sizeOf f≤n) (x:FmFit f) (d:Int) (h0:0≤d) (h1:d≤60) (H:Heap) (h:Q (.bool (a7 f d)) H),D8 57 [.agg (C1 f),.int .i64 d] H Q:=by
  induction n with
  |zero=>intro Q f hn;cases f;simp at hn
  |succ n ih=>
  intro Q f hn x d h0 h1 H h;refine A9 [(3,.wk)] A5 Tryz.func57 rfl ?_;simp only[go_sem,seval,Tryz.results57];have a0:=x.kl;have a4:=x.lin.len;rw[B42]at h;intro y g2;have e2:(H.set y (.box (C1 f))) y=some (.box (C1 f)):=A2 _ _;have e:H.Le (H.set y (.box (C1 f))):=A0 g2;generalize H.set y (.box (C1 f))=Bs at e2 e⊢;apply P8 (C:=1≤d∧B7u f=true)
  · intro A
    have d1:decide (f.s.size=0)=decide (B f.s= []):=by
      rw[←U6];exact D1D.2 List.length_eq_zero_iff
    unfold B7u at A h;rw[d1]at A h;by_cases G:d<1
    · repeat' (first|with_reducible apply D0a|simp only[go_sem,seval,e2,G])
      all_goals (refine D12 e ?_;have: ¬1≤d:=by omega
                 simpa [this]using h)
    · have I:1≤d:=by omega
      have T:=fun(Q:D→Heap→Prop)=>B7v (Q:=Q) f.l x.lin Bs;generalize lin0 f.l=l0 at A h T;by_cases o1:f.op=1
      · repeat' (first|with_reducible apply D0a|simp only[go_sem,seval,e2,G,o1]|intro m|with_reducible refine T _ ?_)
        all_goals first
          |exact O2 [(1,.int .i64 d),(2,.box y 0)] Bs (by simp only[go_sem,seval]) (D11 _) (A (by simp_all))
          |(refine D12 e ?_;simp_all;done)
      · by_cases o2:f.op=2
        · repeat' (first|with_reducible apply D0a|simp only[go_sem,seval,e2,G,o2]|intro m)
          all_goals first
            |exact O2 [(1,.int .i64 d),(2,.box y 0)] Bs (by simp only[go_sem,seval]) (D11 _) (A (by simp_all))
            |(refine D12 e ?_;simp_all;done)
        · by_cases o3:f.op=3
          · repeat' (first|with_reducible apply D0a|simp only[go_sem,seval,e2,G,o3]|intro m|with_reducible refine T _ ?_)
            all_goals first
              |exact O2 [(1,.int .i64 d),(2,.box y 0)] Bs (by simp only[go_sem,seval]) (D11 _) (A (by simp_all))
              |(refine D12 e ?_;simp_all;done)
          · repeat' (first|with_reducible apply D0a|simp only[go_sem,seval,e2,G,o1,o2,o3]|intro m|with_reducible refine T _ ?_)
            all_goals first
              |exact O2 [(1,.int .i64 d),(2,.box y 0)] Bs (by simp only[go_sem,seval]) (D11 _) (A (by simp_all))
              |(refine D12 e ?_;simp_all;done)
  rintro⟨I,J⟩;rw[J,D0c I]at h;simp only[Bool.true_and]at h;have Y:IntKind.i64.wrap (d-1)=d-1:=A3 (by omega) (by omega);repeat' simp only[go_sem,seval,e2]
  refine C4 [1,2,44,45] (fun(i:Nat)=>[(46,.int .i64 i)]) (fun(i:Nat)=>Bs) (fun(i:Nat)=>i≤f.ks.length∧∀(j:Nat) (L:j<f.ks.length),j<i→a7 f.ks[j] (d-1)=true) (fun(i:Nat)=>f.ks.length-i) (0) (⟨D0v _,fun _ _ h=>absurd h (D1q _)⟩) (by(try simp only[go_sem,seval])<;>(try simp(disch:=omega) [A3])) (by first|exact D11 _|exact A0 (by assumption)|exact B2 (by assumption)|simp only[Heap.Le,Heap.set,Heap.del]at* <;>grind) ?_;rintro Ec rfl i ⟨hi,z⟩;by_cases u:i<f.ks.length
  · have o:decide ((i:Int)<f.ks.length)=true:=D0c (by omega)
    have M:(i:Int)<f.ks.length:=by omega
    have hm:=D0o u;have U:=fun(Q:D→Heap→Prop) (H:Heap)=>ih (Q:=Q) f.ks[i] (by have:=R8 hm;omega) (x.kid hm) (d-1) (by omega) (by omega) H;cases hs:a7 f.ks[i] (d-1)with
    |false=>
      rw[hs]at U;have X:(f.ks.all fun k=>a7 k (d-1))=false:=List.all_eq_false.2 ⟨_,hm,by rw[hs];simp⟩;rw[X]at h;simp only[Bool.false_and]at h;repeat' (first|with_reducible apply D0a|simp only[go_sem,seval,o,M,A8 _ _ u,B4 _ _ u,Y]|intro m|with_reducible refine U _ _ ?_|omega)
      exact D12 (by simp only[D4,C9,D0]at* <;>grind) h
    |true=>
      rw[hs]at U;repeat' (first|with_reducible apply D0a|simp only[go_sem,seval,o,M,A8 _ _ u,B4 _ _ u,Y]|simp(disch:=omega) only[A3,A8,C3]|intro m|with_reducible refine U _ _ ?_|omega)
      refine C2 (i+1) ⟨by omega,fun j L a5=>?_⟩ (by omega) (by(try simp only[go_sem,seval])<;>(try simp(disch:=omega) [A3])) (by simp only[D4,C9,D0]at* <;>grind);rcases Nat.lt_or_ge j i with g|g
      · exact z j L g
      · have:j=i:=by omega
        subst this;exact hs
  · have o:decide ((i:Int)<f.ks.length)=false:=D0d (by omega)
    have X:(f.ks.all fun k=>a7 k (d-1))=true:=D1B.2 fun k hk=>by
      obtain⟨j,L,rfl⟩:=List.getElem_of_mem hk;exact z j L (by omega)
    rw[X]at h;simp only[Bool.true_and]at h;unfold B3o at h;by_cases o1:f.op=1
    · rw[if_pos o1]at h
      repeat' (first|with_reducible apply D0a|simp only[go_sem,seval,o,e2,o1]|intro m)
      all_goals (refine D12 e ?_;simp_all)
    rw[if_neg o1]at h;by_cases o2:f.op=2
    · rw[if_pos o2]at h
      repeat' simp only[go_sem,seval,o,e2,o2]
      refine C4 [2,78,79] (fun(j:Nat)=>[(80,.int .i64 j)]) (fun(j:Nat)=>Bs) (fun(j:Nat)=>j≤f.l.t.length∧(f.l.t.all fun t=>plainB t.v)=((f.l.t.drop j).all fun t=>plainB t.v)) (fun(j:Nat)=>f.l.t.length-j) (0) (⟨D0v _,rfl⟩) (by(try simp only[go_sem,seval])<;>(try simp(disch:=omega) [A3])) (by first|exact D11 _|exact A0 (by assumption)|exact B2 (by assumption)|simp only[Heap.Le,Heap.set,Heap.del]at* <;>grind) ?_;rintro a6 rfl j ⟨L,p⟩;by_cases r:j<f.l.t.length
      · have q:decide ((j:Int)<f.l.t.length)=true:=D0c (by omega)
        have O:(j:Int)<f.l.t.length:=by omega
        have hst:=x.lin.str _ (D0o r);rw[D05 r,D1d]at p;have V:=fun(Q:D→Heap→Prop) (H:Heap)=>B00 (Q:=Q) f.l.t[j].v hst H;cases hp:plainB f.l.t[j].v with
        |false=>
          rw[hp]at V p;rw[p]at h;simp only[Bool.false_and]at h;repeat' (first|with_reducible apply D0a|simp only[go_sem,seval,q,O,A8 _ _ r,B4 _ _ r]|intro m|with_reducible refine V _ _ ?_|omega)
          exact D12 (by simp only[D4,C9,D0]at* <;>grind) h
        |true=>
          rw[hp]at V p;repeat' (first|with_reducible apply D0a|simp only[go_sem,seval,q,O,A8 _ _ r,B4 _ _ r]|simp(disch:=omega) only[A3,A8,C3]|intro m|with_reducible refine V _ _ ?_|omega)
          exact C2 (j+1) ⟨by omega,by simpa using p⟩ (by omega) (by(try simp only[go_sem,seval])<;>(try simp(disch:=omega) [A3])) (by simp only[D4,C9,D0]at* <;>grind)
      · have q:decide ((j:Int)<f.l.t.length)=false:=D0d (by omega)
        rw[List.drop_eq_nil_of_le (by omega),List.all_nil]at p;rw[p]at h;simp only[Bool.true_and]at h;repeat' (first|with_reducible apply D0a|simp only[go_sem,seval,q,e2]|intro m|with_reducible refine A3o f.l x.lin _ ?_)
        all_goals (refine D12 e ?_;simp_all)
    rw[if_neg o2]at h;by_cases o3:f.op=3
    · rw[if_pos o3]at h
      repeat' (first|with_reducible apply D0a|simp only[go_sem,seval,o,e2,o3]|intro m|with_reducible refine B00 f.s x.txt _ ?_)
      all_goals (refine D12 e ?_;simp_all)
    rw[if_neg o3]at h;by_cases W:f.op=4
    · rw[if_pos W]at h
      repeat' simp only[go_sem,seval,o,e2,W]
      all_goals (refine D12 e ?_;simp_all)
    rw[if_neg W]at h;repeat' (first|with_reducible apply D0a|simp only[go_sem,seval,o,e2,o1,o2,o3,W]|intro m)
    all_goals (refine D12 e ?_;simp_all)
theorem C0H{Q}(f:Fm)(d:FmFit f)(H:Heap)(h:Q (.bool (a7 f 60)) H):D8 57 [.agg (C1 f),.int .i64 60] H Q:=C0G _ f (D0u _) d 60 (by decide) (by decide) H h
theorem B3p(n:Nat): ∀{Q} (f:Fm) (hn:SizeOf.sizeOf f≤n) (r:FmFit f) (hw:J3 f≤1000000) (H:Heap) (h:Q (.int .i64 (F5 f)) H),D8 58 [.agg (C1 f)] H Q:=by
 induction n with
 |zero=>intro Q f hn;cases f;simp at hn
 |succ n y=>
 intro Q f hn r hw H h;refine A9 [] A5 Tryz.func58 rfl ?_;simp only[go_sem,seval,Tryz.results58];have z:=r.kl;have A:=K6 f;intro q C;have e1:(H.set q (.box (C1 f))) q=some (.box (C1 f)):=A2 _ _;have o:H.Le (H.set q (.box (C1 f))):=A0 C;generalize H.set q (.box (C1 f))=Bs at e1 o⊢;repeat' (first|with_reducible apply D0a|simp only[go_sem,seval,e1]|simp(disch:=omega) only[A3,A8,C3,A2i]|intro u|omega)
 refine C4 [7,8] (fun(p:Nat×Int)=>[(9,.int .i64 p.1),(3,.int .i64 p.2)]) (fun(p:Nat×Int)=>Bs) (fun(p:Nat×Int)=>p.1≤f.ks.length∧p.2=1+F5.nodesL (f.ks.take p.1)) (fun(p:Nat×Int)=>f.ks.length-p.1) ((0,1)) (⟨D0v _,rfl⟩) (by(try simp only[go_sem,seval])<;>(try simp(disch:=omega) [A3])) (by first|exact D11 _|exact A0 (by assumption)|exact B2 (by assumption)|simp only[Heap.Le,Heap.set,Heap.del]at* <;>grind) ?_;rintro L rfl ⟨i,m⟩ ⟨G,g⟩;simp only at G g;by_cases d:i<f.ks.length
 ·have j:decide ((i:Int)<f.ks.length)=true:=D0c (by omega);have x:(i:Int)<f.ks.length:=by omega
  have hm:=D0o d;have w0:=B9a hm;have hs:=A2i f.ks i d;have hb:=B4h (f.ks.take i);have I:J3.wtL (f.ks.take i)≤J3.wtL f.ks:=by
   conv=>rhs;rw[←D1L i f.ks,A3q]
   omega
  have J:=A2h f.ks[i];repeat' (first|with_reducible apply D0a|simp only[go_sem,seval,j,x,A8 _ _ d,B4 _ _ d]|simp(disch:=omega) only[A3,A8,C3,A2i]|intro u|with_reducible refine y f.ks[i] (by have:=R8 hm;omega) (r.kid hm) (by omega) _ ?_|omega)
  exact C2 (i+1,m+F5 f.ks[i]) ⟨by simp only[];omega,by simp only[];rw[hs];push_cast;omega⟩ (by simp only[];omega) (by(try simp only[go_sem,seval])<;>(try simp(disch:=omega) [A3])) (by simp only[D4,C9,D0]at* <;>grind)
 ·have j:decide ((i:Int)<f.ks.length)=false:=D0d (by omega);have e:F5 f=1+F5.nodesL f.ks:=B4g f;rw[D0p (by omega)]at g;have e2:m=(F5 f:Int):=by rw[g,e];push_cast;rfl
  rw[←e2]at h;repeat' simp only[go_sem,seval,j]
  exact D12 o h
theorem B7w(n:Nat): ∀{Q} (f:Fm) (hn:SizeOf.sizeOf f≤n) (A:FmFit f) (a b:List ByteArray) (hw:J3 f+a.length+b.length≤2000000) (H:Heap) (h:Q (.tuple [nsD ((D3 f).foldl E9 a),nsD ((C5 f).foldl E9 b)]) H),D8 48 [.agg (C1 f),nsD a,nsD b] H Q:=by
 induction n with
 |zero=>intro Q f hn;cases f;simp at hn
 |succ n O=>
 intro Q f hn A a b hw H h;refine A9 [(8,.wk)] A5 Tryz.func48 rfl ?_;simp only[go_sem,seval,Tryz.results48];have T:=A.kl;have U:=A.lin.len;have V:=K6 f;rw[A6U,A4d,D1S,D1S]at h;intro o W;have e3:(H.set o (.box (C1 f))) o=some (.box (C1 f)):=A2 _ _;have q:H.Le (H.set o (.box (C1 f))):=A0 W;generalize H.set o (.box (C1 f))=Bs at e3 q⊢;repeat' (first|with_reducible apply D0a|simp only[go_sem,seval,e3]|simp(disch:=omega) only[A3,A8,A0q,C3,Q7,O7]|intro u|omega)
 refine C4 [2,3,14,15] (fun(p:Nat×List ByteArray)=>[(16,.int .i64 p.1),(1,nsD p.2)]) (fun(p:Nat×List ByteArray)=>Bs) (fun(p:Nat×List ByteArray)=>p.1≤f.l.t.length∧p.2=((f.l.t.take p.1).map (·.v)).foldl E9 a) (fun(p:Nat×List ByteArray)=>f.l.t.length-p.1) ((0,a)) (⟨D0v _,rfl⟩) (by(try simp only[go_sem,seval])<;>(try simp(disch:=omega) [A3])) (by first|exact D11 _|exact A0 (by assumption)|exact B2 (by assumption)|simp only[Heap.Le,Heap.set,Heap.del]at* <;>grind) ?_;rintro Ec rfl ⟨i,r⟩ ⟨X,hr⟩;simp only at X hr;by_cases m:i<f.l.t.length
 ·have g:decide ((i:Int)<f.l.t.length)=true:=D0c (by omega);have G:(i:Int)<f.l.t.length:=by omega
  have hb:=O6 ((f.l.t.take i).map (·.v)) a;rw[←hr,D1J,D1I]at hb;repeat' (first|with_reducible apply D0a|simp only[go_sem,seval,g,G,A8 _ _ m,B4 _ _ m]|simp(disch:=omega) only[A3,A8,A0q,C3,Q7,O7]|intro u|with_reducible refine A8r r (by omega) _ _ ?_|omega)
  exact C2 (i+1,E9 r f.l.t[i].v) ⟨by simp only[];omega,by simp only[];rw[D0t m,D1a,D1S,←hr];rfl⟩ (by simp only[];omega) (by(try simp only[go_sem,seval])<;>(try simp(disch:=omega) [A3])) (by simp only[D4,C9,D0]at* <;>grind)
 ·have g:decide ((i:Int)<f.l.t.length)=false:=D0d (by omega);rw[D0p (by omega)]at hr;have hb:=O6 (f.l.t.map (·.v)) a;rw[←hr,D1J]at hb;rw[←hr]at h;obtain⟨c,hc⟩: ∃c,c=(if f.op=3 then [f.s]else []).foldl E9 b:=⟨_,rfl⟩
  rw[←hc]at h;have Y:c.length≤b.length+1:=by
   rw[hc];split
   ·exact A4c _ _
   ·simp
  apply P8 (C:=True)
  ·intro M;by_cases o3:f.op=3
   ·rw[if_pos o3]at hc;have hc:c=E9 b f.s:=hc;repeat' (first|simp only[go_sem,seval,g,e3,o3]|with_reducible refine A8r b (by omega) f.s _ ?_)
    rw[←hc];exact O2 [(1,nsD r),(2,nsD c),(3,.box o 0)] Bs (by simp only[go_sem,seval]) (D11 _) (M trivial)
   ·rw[if_neg o3]at hc;have hc:c=b:=hc;repeat' simp only[go_sem,seval,g,e3,o3]
    rw[←hc];exact O2 [(1,nsD r),(2,nsD c),(3,.box o 0)] Bs (by simp only[go_sem,seval]) (D11 _) (M trivial)
  intro _;repeat' simp only[go_sem,seval,e3]
  refine C4 [33,34] (fun(p:Nat×List ByteArray×List ByteArray)=>[(35,.int .i64 p.1),(1,nsD p.2.1),(2,nsD p.2.2)]) (fun(p:Nat×List ByteArray×List ByteArray)=>Bs) (fun(p:Nat×List ByteArray×List ByteArray)=>p.1≤f.ks.length∧p.2.1=(D3.intsL (f.ks.take p.1)).foldl E9 r∧p.2.2=(C5.boolsL (f.ks.take p.1)).foldl E9 c) (fun(p:Nat×List ByteArray×List ByteArray)=>f.ks.length-p.1) ((0,r,c)) (⟨D0v _,rfl,rfl⟩) (by(try simp only[go_sem,seval])<;>(try simp(disch:=omega) [A3])) (by first|exact D11 _|exact A0 (by assumption)|exact B2 (by assumption)|simp only[Heap.Le,Heap.set,Heap.del]at* <;>grind) ?_;rintro a0 rfl ⟨j,x,y⟩ ⟨hj,hx,z⟩;simp only at hj hx z;by_cases d:j<f.ks.length
  ·have e:decide ((j:Int)<f.ks.length)=true:=D0c (by omega);have I:(j:Int)<f.ks.length:=by omega
   have hm:=D0o d;have J:=O6 (D3.intsL (f.ks.take j)) r;have L:=O6 (C5.boolsL (f.ks.take j)) c;rw[←hx]at J;rw[←z]at L;have a4:=A7t (f.ks.take j);have a5:J3.wtL f.ks=J3.wtL (f.ks.take j)+J3.wtL (f.ks.drop j):=by
    conv=>lhs;rw[←D1L j f.ks,A3q]
   have a6:=A0q f.ks j d;repeat' (first|with_reducible apply D0a|simp only[go_sem,seval,e,I,A8 _ _ d,B4 _ _ d]|simp(disch:=omega) only[A3,A8,A0q,C3,Q7,O7]|intro u|with_reducible refine O f.ks[j] (by have:=R8 hm;omega) (A.kid hm) x y (by omega) _ ?_|omega)
   refine C2 (j+1,(D3 f.ks[j]).foldl E9 x,(C5 f.ks[j]).foldl E9 y) ⟨by simp only[];omega,?_,?_⟩ (by simp only[];omega) (by(try simp only[go_sem,seval])<;>(try simp(disch:=omega) [A3])) (by simp only[D4,C9,D0]at* <;>grind)
   ·simp only[];rw[Q7 _ _ d,D1S,←hx]
   ·simp only[];rw[O7 _ _ d,D1S,←z]
  ·have e:decide ((j:Int)<f.ks.length)=false:=D0d (by omega);rw[D0p (by omega)]at hx z;rw[←hx,←z]at h;repeat' simp only[go_sem,seval,e]
   exact D12 q h
theorem B7x{Q}(f:Fm)(g:FmFit f)(hw:J3 f≤1000000)(H:Heap)(h:Q (.tuple [.sl 1 (Rw F3 (ivF f)),.sl 1 (Rw F3 (V6 f))]) H):D8 48 [.agg (C1 f),.nilsl,.nilsl] H Q:=
 ACalls.fin (B7w _ f (D0u _) g [] [] (by simp;omega) H (E5 (d':=.tuple [.sl 1 (Rw F3 (ivF f)),.sl 1 (Rw F3 (V6 f))]) (.tuple _ _ rfl fun i d d' h1 e=>(match i,h1,e with
  |0,h1,e=>by cases h1;cases e;exact A5Y _
  |1,h1,e=>by cases h1;cases e;exact A5Y _
  |i+2,h1,e=>by cases h1)) (D15 h)))
theorem C35{Q}(l m:List ByteArray)(hl:l.length≤1000000000)(hm:m.length≤1000000000)(H:Heap)(h:Q (.bool (meetL l m)) H):D8 59 [.sl 1 (Rw F3 l),.sl 1 (Rw F3 m)] H Q:=by
 refine A9 [] A5 Tryz.func59 rfl ?_;simp only[go_sem,seval,Tryz.results59];repeat' (first|with_reducible apply D0a|simp only[go_sem,seval]|simp(disch:=omega) only[A3,A8,C3]|intro M|omega)
 refine C4 [1,9,10] (fun(i:Nat)=>[(11,.int .i64 i)]) (fun(i:Nat)=>H) (fun(i:Nat)=>i≤l.length∧∀(j:Nat) (G:j<l.length),j<i→l[j]∉m) (fun(i:Nat)=>l.length-i) (0) (⟨D0v _,fun _ _ h=>absurd h (D1q _)⟩) (by(try simp only[go_sem,seval])<;>(try simp(disch:=omega) [A3])) (by first|exact D11 _|exact A0 (by assumption)|exact B2 (by assumption)|simp only[Heap.Le,Heap.set,Heap.del]at* <;>grind) ?_;rintro V rfl i ⟨W,p⟩;by_cases r:i<l.length
 ·have u:decide ((i:Int)<l.length)=true:=D0c (by omega);have I:(i:Int)<l.length:=by omega
  repeat' (first|with_reducible apply D0a|simp only[go_sem,seval,u,I,A8 _ _ r,B4 _ _ r]|omega)
  refine C4 [1,6,9,10,11,15,16] (fun(j:Nat)=>[(17,.int .i64 j)]) (fun(j:Nat)=>H) (fun(j:Nat)=>j≤m.length∧∀(k:Nat) (hk:k<m.length),k<j→m[k]≠l[i]) (fun(j:Nat)=>m.length-j) (0) (⟨D0v _,fun _ _ h=>absurd h (D1q _)⟩) (by(try simp only[go_sem,seval])<;>(try simp(disch:=omega) [A3])) (by first|exact D11 _|exact A0 (by assumption)|exact B2 (by assumption)|simp only[Heap.Le,Heap.set,Heap.del]at* <;>grind) ?_;rintro O rfl j ⟨G,z⟩;by_cases o:j<m.length
  ·have d:decide ((j:Int)<m.length)=true:=D0c (by omega);have A:(j:Int)<m.length:=by omega
   by_cases q:l[i]=m[j]
   ·have J:decide (B l[i]=B m[j])=true:=D0c (by rw[q]);have y:meetL l m=true:=(A1C _ _).2 ⟨_,D0o r,q ▸ D0o o⟩;rw[y]at h;repeat' (first|with_reducible apply D0a|simp only[go_sem,seval,d,A,A8 _ _ o,B4 _ _ o,J]|omega)
    exact D15 h
   ·have J:decide (B l[i]=B m[j])=false:=D0d fun e=>q (U7 e);repeat' (first|with_reducible apply D0a|simp only[go_sem,seval,d,A,A8 _ _ o,B4 _ _ o,J]|simp(disch:=omega) only[A3,A8,C3]|omega)
    refine C2 (j+1) ⟨by omega,fun k hk T=>?_⟩ (by omega) (by(try simp only[go_sem,seval])<;>(try simp(disch:=omega) [A3])) (D11 _);rcases Nat.lt_or_ge k j with g|g
    ·exact z k hk g
    ·have:k=j:=by omega
     subst this;exact fun e=>q e.symm
  ·have d:decide ((j:Int)<m.length)=false:=D0d (by omega);repeat' (first|simp only[go_sem,seval,d]|simp(disch:=omega) only[A3,A8,C3])
   refine C2 (i+1) ⟨by omega,fun k hk U=>?_⟩ (by omega) (by(try simp only[go_sem,seval])<;>(try simp(disch:=omega) [A3])) (D11 _);rcases Nat.lt_or_ge k i with g|g
   ·exact p k hk g
   ·have:k=i:=by omega
    subst this;intro C;obtain⟨q,hq,e⟩:=List.getElem_of_mem C;exact z q hq (by omega) e
 ·have u:decide ((i:Int)<l.length)=false:=D0d (by omega);have y:meetL l m=false:=by
   rw[←D1w,A1C];rintro⟨x,hx,L⟩;obtain⟨j,G,rfl⟩:=List.getElem_of_mem hx;exact p j G (by omega) L
  rw[y]at h;repeat' simp only[go_sem,seval,u]
  exact D15 h
theorem B7y{Q}(f:Fm)(j:FmFit f)(x:VOk f)(H:Heap)(h:Q (.bool (E8 f)) H):D8 19 [.agg (C1 f)] H Q:=by
 refine A9 [] A5 Tryz.func19 rfl ?_;simp only[go_sem,seval,Tryz.results19];have o:E8 f=(a7 f 60&&decide (F5 f≤200)&& !meetL (ivF f) (V6 f)&&decide ((ivF f).length+(V6 f).length≤12)):=by
  rw[y4];unfold a7;rw[show decide ((N9 f:Int)≤60)=decide (N9 f≤60)from D1D.2 (by omega)];cases I0 D6 f<;>cases decide (N9 f≤60)<;>rfl
 rw[o]at h;intro m h1;have e1:(H.set m (.box (C1 f))) m=some (.box (C1 f)):=A2 _ _;have d:H.Le (H.set m (.box (C1 f))):=A0 h1;generalize H.set m (.box (C1 f))=Bs at e1 d⊢;have e:=fun(Q:D→Heap→Prop) (H:Heap)=>C0H (Q:=Q) f j H;cases hs:a7 f 60 with
 |false=>
  rw[hs]at h e;simp only[Bool.false_and]at h;repeat' (first|simp only[go_sem,seval,e1]|with_reducible refine e _ _ ?_)
  exact D12 d h
 |true=>
  have i:I0 D6 f=true:=by unfold a7 at hs;rw[D0n]at hs;exact hs.2
  have hw:J3 f≤1000000:=by
   rcases x with g|g
   ·exact g
   ·rw[i]at g;cases g
  have y:=A2h f;have z:=A3s f;have A:(ivF f).length≤1000000:=by have:=O6 (D3 f) [];unfold ivF upS;simp at this;omega
  have C:(V6 f).length≤1000000:=by have:=O6 (C5 f) [];unfold V6 upS;simp at this;omega
  rw[hs]at h e;simp only[Bool.true_and]at h;have p:decide ((ivF f).length+(V6 f).length≤12)=decide (((ivF f).length:Int)+(V6 f).length≤12):=D1D.2 (by omega);rw[p]at h;by_cases q:F5 f≤200
  ·have r: ¬(200:Int)<F5 f:=by omega
   rw[D0c q]at h;simp only[Bool.true_and]at h;have u:=fun(Q:D→Heap→Prop) (H:Heap)=>C35 (Q:=Q) (ivF f) (V6 f) (by omega) (by omega) H;generalize meetL (ivF f) (V6 f)=I at h u;repeat' (first|with_reducible apply D0a|simp only[go_sem,seval,e1,r]|simp(disch:=omega) only[A3,C3]|intro G|with_reducible refine e _ _ ?_|with_reducible refine B3p _ f (D0u _) j hw _ ?_|with_reducible refine B7x f j hw _ ?_|with_reducible refine u _ _ ?_)
   all_goals (refine D12 d ?_;simp_all)
  ·have r:(200:Int)<F5 f:=by omega
   rw[D0d q]at h;simp only[Bool.false_and]at h;repeat' (first|simp only[go_sem,seval,e1,r]|with_reducible refine e _ _ ?_|with_reducible refine B3p _ f (D0u _) j hw _ ?_)
   all_goals exact D12 d h
set_option maxHeartbeats 4000000 in
theorem B43(n:Nat): ∀{Q} (f:Fm) (hn:SizeOf.sizeOf f≤n) (O:FmFit f) (a b:List ByteArray) (hw:J3 f+a.length+b.length≤2000000) (ob:Option Nat) (G H:Heap) (W:OutIn G 1 (Rw F3 a) ob H)
  (h: ∀I H',OutIn G 1 (Rw F3 ((D3 f).foldl E9 a)) I H'→Q (.tuple [H6 1 ((D3 f).foldl E9 a).length I,nsD ((C5 f).foldl E9 b)]) H'),D8 48 [.agg (C1 f),H6 1 a.length ob,nsD b] H Q:=by
 induction n with
 |zero=>intro Q f hn;cases f;simp at hn
 |succ n ih=>
 intro Q f hn O a b hw ob G H W h;refine A9 [(8,.wk)] A5 Tryz.func48 rfl ?_;simp only[go_sem,seval,Tryz.results48];have b0:=O.kl;have b1:=O.lin.len;have b2:=K6 f;rw[A6U,A4d,D1S,D1S]at h;intro q g3;have X:G q=none:=W.1.none g3;have qs:=C0D W g3 (o:=.box (C1 f));have e3:(G.set q (.box (C1 f))) q=some (.box (C1 f)):=A2 _ _;have J:G.Le (G.set q (.box (C1 f))):=A0 X;generalize G.set q (.box (C1 f))=T at qs e3 J;have L:=qs.1 _ _ e3;generalize H.set q (.box (C1 f))=Bs at qs L⊢;repeat' (first|with_reducible apply D0a|simp only[go_sem,seval,L]|simp(disch:=omega) only[A3,A8,A0q,C3,Q7,O7]|intro d|omega)
 refine C4 [2,3,14,15] (fun(p:Nat×List ByteArray×Option Nat×Heap)=>[(16,.int .i64 p.1),(1,H6 1 p.2.1.length p.2.2.1)]) (fun(p:Nat×List ByteArray×Option Nat×Heap)=>p.2.2.2) (fun(p:Nat×List ByteArray×Option Nat×Heap)=>p.1≤f.l.t.length∧p.2.1=((f.l.t.take p.1).map (·.v)).foldl E9 a∧OutIn T 1 (Rw F3 p.2.1) p.2.2.1 p.2.2.2) (fun(p:Nat×List ByteArray×Option Nat×Heap)=>f.l.t.length-p.1) ((0,a,ob,Bs)) (⟨D0v _,rfl,qs⟩) (by(try simp only[go_sem,seval])<;>(try simp(disch:=omega) [A3])) (by first|exact D11 _|exact A0 (by assumption)|exact B2 (by assumption)|simp only[Heap.Le,Heap.set,Heap.del]at* <;>grind) ?_;rintro Ec rfl ⟨i,r,U,Hp⟩ ⟨hi,hr,V⟩;simp only at hi hr V;by_cases u:i<f.l.t.length
 ·have m:decide ((i:Int)<f.l.t.length)=true:=D0c (by omega);have Y:(i:Int)<f.l.t.length:=by omega
  have hb:=O6 ((f.l.t.take i).map (·.v)) a;rw[←hr,D1J,D1I]at hb;repeat' (first|with_reducible apply D0a|simp only[go_sem,seval,m,Y,A8 _ _ u,B4 _ _ u]|intro d|omega)
  rename_i x;have hx:=d;clear d;refine C0E T r (by omega) _ U _ (V.set hx _) fun a0 Hq qq=>?_;repeat' (first|simp only[go_sem,seval]|simp(disch:=omega) only[A3,A8,A0q,C3,Q7,O7])
  exact C2 (i+1,E9 r f.l.t[i].v,a0,Hq) ⟨by simp only[];omega,by simp only[];rw[D0t u,D1a,D1S,←hr];rfl,qq⟩ (by simp only[];omega) (by(try simp only[go_sem,seval])<;>(try simp(disch:=omega) [A3])) (D11 _)
 ·have m:decide ((i:Int)<f.l.t.length)=false:=D0d (by omega);rw[D0p (by omega)]at hr;have hb:=O6 (f.l.t.map (·.v)) a;rw[←hr,D1J]at hb;rw[←hr]at h;have A:=V.1 _ _ e3;obtain⟨c,hc⟩: ∃c,c=(if f.op=3 then [f.s]else []).foldl E9 b:=⟨_,rfl⟩
  rw[←hc]at h;have b4:c.length≤b.length+1:=by
   rw[hc];split
   ·exact A4c _ _
   ·simp
  apply P8 (C:=True)
  ·intro hJ;by_cases o3:f.op=3
   ·rw[if_pos o3]at hc;have hc:c=E9 b f.s:=hc;repeat' (first|simp only[go_sem,seval,m,A,o3]|with_reducible refine A8r b (by omega) f.s _ ?_)
    rw[←hc];exact O2 [(1,H6 1 r.length U),(2,nsD c),(3,.box q 0)] Hp (by simp only[go_sem,seval]) (D11 _) (hJ trivial)
   ·rw[if_neg o3]at hc;have hc:c=b:=hc;repeat' simp only[go_sem,seval,m,A,o3]
    rw[←hc];exact O2 [(1,H6 1 r.length U),(2,nsD c),(3,.box q 0)] Hp (by simp only[go_sem,seval]) (D11 _) (hJ trivial)
  intro _;repeat' simp only[go_sem,seval,A]
  refine C4 [33,34] (fun(p:Nat×List ByteArray×List ByteArray×Option Nat×Heap)=>[(35,.int .i64 p.1),(1,H6 1 p.2.1.length p.2.2.2.1),(2,nsD p.2.2.1)]) (fun(p:Nat×List ByteArray×List ByteArray×Option Nat×Heap)=>p.2.2.2.2) (fun(p:Nat×List ByteArray×List ByteArray×Option Nat×Heap)=>p.1≤f.ks.length∧p.2.1=(D3.intsL (f.ks.take p.1)).foldl E9 r∧p.2.2.1=(C5.boolsL (f.ks.take p.1)).foldl E9 c∧OutIn T 1 (Rw F3 p.2.1) p.2.2.2.1 p.2.2.2.2) (fun(p:Nat×List ByteArray×List ByteArray×Option Nat×Heap)=>f.ks.length-p.1) ((0,r,c,U,Hp)) (⟨D0v _,rfl,rfl,V⟩) (by(try simp only[go_sem,seval])<;>(try simp(disch:=omega) [A3])) (by first|exact D11 _|exact A0 (by assumption)|exact B2 (by assumption)|simp only[Heap.Le,Heap.set,Heap.del]at* <;>grind) ?_;rintro b6 rfl ⟨j,x,y,oj,Hj⟩ ⟨hj,hx,M,qj⟩;simp only at hj hx M qj;by_cases e:j<f.ks.length
  ·have g:decide ((j:Int)<f.ks.length)=true:=D0c (by omega);have a4:(j:Int)<f.ks.length:=by omega
   have hm:=D0o e;have a5:=O6 (D3.intsL (f.ks.take j)) r;have a6:=O6 (C5.boolsL (f.ks.take j)) c;rw[←hx]at a5;rw[←M]at a6;have b7:=A7t (f.ks.take j);have b8:J3.wtL f.ks=J3.wtL (f.ks.take j)+J3.wtL (f.ks.drop j):=by
    conv=>lhs;rw[←D1L j f.ks,A3q]
   have b9:=A0q f.ks j e;repeat' (first|with_reducible apply D0a|simp only[go_sem,seval,g,a4,A8 _ _ e,B4 _ _ e]|intro d|omega)
   rename_i z;have hz:=d;clear d;refine ih f.ks[j] (by have:=R8 hm;omega) (O.kid hm) x y (by omega) oj T _ (qj.set hz _) fun a9 Hk qk=>?_;repeat' (first|simp only[go_sem,seval]|simp(disch:=omega) only[A3,A8,A0q,C3,Q7,O7])
   refine C2 (j+1,(D3 f.ks[j]).foldl E9 x,(C5 f.ks[j]).foldl E9 y,a9,Hk) ⟨by simp only[];omega,?_,?_,qk⟩ (by simp only[];omega) (by(try simp only[go_sem,seval])<;>(try simp(disch:=omega) [A3])) (D11 _)
   ·simp only[];rw[Q7 _ _ e,D1S,←hx]
   ·simp only[];rw[O7 _ _ e,D1S,←M]
  ·have g:decide ((j:Int)<f.ks.length)=false:=D0d (by omega);rw[D0p (by omega)]at hx M;rw[←hx,←M]at h;repeat' simp only[go_sem,seval,g]
   exact D15 (h _ _ (qj.less J))
theorem B7z{Q}(vs:List VlV)(k:Fm)(b:Nat)(H:Heap)(hb:H b=some (.box [.sl 2 (Rw vlC vs)]))(j: ∀(Q:D→Heap→Prop) (H:Heap),Q (.bool (M6 k vs)) H→D8 63 [.agg (C1 k),.sl 2 (Rw vlC vs)] H Q)(h:Q (.bool (!M6 k vs)) H):D8 109 [.agg (C1 k),.box b 0] H Q:=by
 refine A9 [] A5 Tryz.func109 rfl ?_;simp only[go_sem,seval,Tryz.results109];intro d i;have n2:b≠d:=fun e=>by rw[←e,hb]at i;cases i
 have e1:(H.set d (.box (C1 k))) b=some (.box [.sl 2 (Rw vlC vs)]):=by rw[A4 _ n2];exact hb
 have e2:(H.set d (.box (C1 k))) d=some (.box (C1 k)):=A2 _ _;have g:H.Le (H.set d (.box (C1 k))):=A0 i;generalize H.set d (.box (C1 k))=Bs at e1 e2 g⊢;repeat' (first|simp only[go_sem,seval,e1,e2]|with_reducible refine j _ _ ?_)
 exact D12 g h
theorem B70{Q}(vs:List VlV)(k:Fm)(b:Nat)(H:Heap)(hb:H b=some (.box [.sl 2 (Rw vlC vs)]))(j: ∀(Q:D→Heap→Prop) (H:Heap),Q (.bool (M6 k vs)) H→D8 63 [.agg (C1 k),.sl 2 (Rw vlC vs)] H Q)(h:Q (.bool (M6 k vs)) H):D8 110 [.agg (C1 k),.box b 0] H Q:=by
 refine A9 [] A5 Tryz.func110 rfl ?_;simp only[go_sem,seval,Tryz.results110];intro d i;have n2:b≠d:=fun e=>by rw[←e,hb]at i;cases i
 have e1:(H.set d (.box (C1 k))) b=some (.box [.sl 2 (Rw vlC vs)]):=by rw[A4 _ n2];exact hb
 have e2:(H.set d (.box (C1 k))) d=some (.box (C1 k)):=A2 _ _;have g:H.Le (H.set d (.box (C1 k))):=A0 i;generalize H.set d (.box (C1 k))=Bs at e1 e2 g⊢;repeat' (first|simp only[go_sem,seval,e1,e2]|with_reducible refine j _ _ ?_)
 exact D12 g h
theorem B71(l:List Fm)(p:Fm→Bool):(!l.any fun k=> !p k)=l.all p:=by
 induction l with
 |nil=>rfl
 |cons x l d=>rw[D1f,D1d,←d];cases p x<;>simp
theorem C0I(vs:List VlV)(I:A03 vs)(hv:I6 vs=true)(n:Nat): ∀{Q} (f:Fm) (hn:SizeOf.sizeOf f≤n) (r:I0 D6 f=true) (u:FmFit f) (H:Heap) (h:Q (.bool (M6 f vs)) H),D8 63 [.agg (C1 f),.sl 2 (Rw vlC vs)] H Q:=by
 induction n with
 |zero=>intro Q f hn;cases f;simp at hn
 |succ n J=>
 intro Q f hn r u H h;refine A9 [] A5 Tryz.func63 rfl ?_;simp only[go_sem,seval,Tryz.results63];have q:=u.kl;have L:=I.len;have g: ∀k∈f.ks,∀(Q:D→Heap→Prop) (H:Heap),Q (.bool (M6 k vs)) H→D8 63 [.agg (C1 k),.sl 2 (Rw vlC vs)] H Q:=fun k hk Q H hq=>J k (by have:=R8 hk;omega) (P7 r hk) (u.kid hk) H hq;intro p M j x;simp only[A6]at x;have y:p≠j:=fun e=>x.1 e.symm;have e2:((H.set p (.box (C1 f))).set j (.box [.sl 2 (Rw vlC vs)])) p=some (.box (C1 f)):=by rw[A4 _ y,A2]
 have e3:((H.set p (.box (C1 f))).set j (.box [.sl 2 (Rw vlC vs)])) j=some (.box [.sl 2 (Rw vlC vs)]):=A2 _ _;have i:H.Le ((H.set p (.box (C1 f))).set j (.box [.sl 2 (Rw vlC vs)])):=(A0 M).trans (A0 (by simp only[A6];exact x));generalize (H.set p (.box (C1 f))).set j (.box [.sl 2 (Rw vlC vs)])=Bs at e2 e3 i⊢;cases V2 r with
 |con m hm=>
  rw[C65 _ rfl]at h;simp only[Fm.n]at h;repeat' simp only[go_sem,seval,e2]
  exact D12 i h
 |lin l hl hp=>
  rw[C66 _ rfl]at h;simp only[Fm.l]at h;obtain⟨T,K,E⟩:=l;have C:=fun(Q:D→Heap→Prop) (H:Heap)=>B9T (Q:=Q) ⟨T,K,E⟩ hl vs hv (by omega) H;generalize (L8 K T vs).getD 0=z at h C;unfold A29 at h;repeat' (first|with_reducible apply D0a|simp only[go_sem,seval,e2,e3]|(intro A;try simp only[A6]at A)|with_reducible refine C _ _ ?_)
  all_goals (refine D12 i ?_;simp_all)
 |var s hp=>
  rw[C67 _ rfl]at h;simp only[Fm.s]at h;repeat' (first|simp only[go_sem,seval,e2,e3]|with_reducible refine B0f vs hv s (by omega) _ ?_)
  exact D12 i h
 |not k=>
  rw[C68 _ rfl rfl]at h;have O:(Rw C1 [k]).getD 0 []=C1 k:=rfl;have U:=g k (D0l ..);repeat' (first|with_reducible apply D0a|simp only[go_sem,seval,e2,e3,O]|with_reducible refine U _ _ ?_|omega)
  all_goals first
   |exact D12 i h
   |decide
   |omega
 |and ks=>
  rw[C69 _ rfl]at h;simp only[Fm.ks]at h g q;have V:=A8y (Q:=fun d G=>d= .bool (ks.any fun k=> !M6 k vs)∧G=Bs) (fun k=> !M6 k vs) ks (by omega) 109 [] [.box j 0] Bs (fun k hk _ Q hq=>B7z vs ks[k] j Bs e3 (g _ (D0o hk)) hq) ⟨rfl,rfl⟩;have o: ∀(Q:D→Heap→Prop),Q (.bool (ks.any fun k=> !M6 k vs)) Bs→D8 108 [.sl 7 (Rw C1 ks),.fn (.func 109) [] [.box j 0]] Bs Q:=fun Q hq=>V.mono fun d G ⟨h1,W⟩=>by rw[h1,W];exact hq
  rw[←B71]at h;repeat' (first|simp only[go_sem,seval,e2,e3]|with_reducible refine o _ ?_)
  exact D12 i h
 |or ks=>
  rw[C7A _ rfl]at h;simp only[Fm.ks]at h g q;have o:=fun(Q:D→Heap→Prop)=>A8y (Q:=Q) (fun k=>M6 k vs) ks (by omega) 110 [] [.box j 0] Bs (fun k hk _ Q hq=>B70 vs ks[k] j Bs e3 (g _ (D0o hk)) hq);repeat' (first|simp only[go_sem,seval,e2,e3]|with_reducible refine o _ ?_)
  exact D12 i h
theorem C0J{Q}(vs:List VlV)(d:A03 vs)(hv:I6 vs=true)(f:Fm)(e:I0 D6 f=true)(g:FmFit f)(H:Heap)(h:Q (.bool (M6 f vs)) H):D8 63 [.agg (C1 f),.sl 2 (Rw vlC vs)] H Q:=C0I vs d hv _ f (D0u _) e g H h
theorem C7E{Q}(f:Fm)(fa:FmFit f)(vo:VOk f)(vs:List VlV)(fv:A03 vs)(H:Heap)(h:Q (.tuple [.bool (atF f vs).1,.int .i64 (atF f vs).2]) H):D8 22 [.agg (C1 f),.sl 2 (Rw vlC vs)] H Q:=by
 refine A9 [] A5 Tryz.func22 rfl ?_;simp only[go_sem,seval,Tryz.results22];have c8:=fv.len;intro O g2;have e2:(H.set O (.box (C1 f))) O=some (.box (C1 f)):=A2 _ _;have J:H.Le (H.set O (.box (C1 f))):=A0 g2;generalize H.set O (.box (C1 f))=Bs at e2 J⊢;have W:=fun(Q:D→Heap→Prop) (H:Heap)=>R9 (Q:=Q) f fa vo H;have wc:=fun(Q:D→Heap→Prop) (H:Heap)=>B6f (Q:=Q) vs fv H;unfold atF at h;cases hf:E8 f with
 |false=>
  rw[hf]at h W;simp only[D0q,false_and,if_false]at h;repeat' (first|simp only[go_sem,seval,e2]|with_reducible refine W _ _ ?_)
  exact D12 J h
 |true=>
  cases hv:I6 vs with
  |false=>
   rw[hf]at h W;rw[hv]at h wc;simp only[D0q,and_false,if_false]at h;repeat' (first|simp only[go_sem,seval,e2]|with_reducible refine W _ _ ?_|with_reducible refine wc _ _ ?_)
   exact D12 J h
  |true=>
   rw[hf]at h W;rw[hv]at h wc;simp only[and_self,if_true]at h;have b3: ∀m,(D.fm m).cells= [D.fm m]:=fun _=>rfl;repeat' (first|simp only[go_sem,seval,e2,b3]|intro o|with_reducible refine W _ _ ?_|with_reducible refine wc _ _ ?_|with_reducible refine A3x (by assumption) f fa rfl ?_)
   rename_i y;have T:=o;clear o;have u:H.Le (Bs.set y (.vec 1 [[.fm (D2 tt (J7 (D3 f)))],[.fm (D2 tt (J7 (C5 f)))]])):=J.trans (A0 T);have n2:O≠y:=fun e=>by rw[←e,e2]at T;cases T
   have c2:(Bs.set y (.vec 1 [[.fm (D2 tt (J7 (D3 f)))],[.fm (D2 tt (J7 (C5 f)))]])) O=some (.box (C1 f)):=by rw[A4 _ n2];exact e2
   have a0:(Bs.set y (.vec 1 [[.fm (D2 tt (J7 (D3 f)))],[.fm (D2 tt (J7 (C5 f)))]])) y=some (.vec 1 [[.fm (D2 tt (J7 (D3 f)))],[.fm (D2 tt (J7 (C5 f)))]]):=A2 _ _;generalize Bs.set y (.vec 1 [[.fm (D2 tt (J7 (D3 f)))],[.fm (D2 tt (J7 (C5 f)))]])=Cs at c2 a0 u⊢;refine C4 [1,2,7,32,33] (fun(j:Nat)=>[(34,.int .i64 j)]) (fun(j:Nat)=>Cs) (fun(j:Nat)=>j≤2∧(0<j→∀s∈D3 f,(J4 vs s).isSome=true)∧(1<j→∀s∈C5 f,(J4 vs s).isSome=true)) (fun(j:Nat)=>2-j) (0) (⟨D0v _,fun h=>absurd h (by decide),fun h=>absurd h (by decide)⟩) (by(try simp only[go_sem,seval])<;>(try simp(disch:=omega) [A3])) (by first|exact D11 _|exact A0 (by assumption)|exact B2 (by assumption)|simp only[Heap.Le,Heap.set,Heap.del]at* <;>grind) ?_;rintro Ec rfl j ⟨hj,a4,b4⟩;by_cases b6:j<2
   ·have U:decide ((j:Int)<2)=true:=D0c (by omega);have b7:(j:Int)<2:=by omega
    obtain⟨ks,G,a5,b8,b9⟩: ∃ks:List ByteArray,([[D.fm (D2 tt (J7 (D3 f)))],[.fm (D2 tt (J7 (C5 f)))]]).getD j []= [.fm (D2 tt ks)]∧([[D.fm (D2 tt (J7 (D3 f)))],[.fm (D2 tt (J7 (C5 f)))]])[j]? =some [.fm (D2 tt ks)]∧
      ((∀s∈ks,(J4 vs s).isSome=true)→(0<j+1→∀s∈D3 f,(J4 vs s).isSome=true)∧(1<j+1→∀s∈C5 f,(J4 vs s).isSome=true))∧(∀s∈ks,(J4 vs s).isSome=false→A3L f vs=false):=by
     match j,b6 with
     |0,_=>exact⟨J7 (D3 f),rfl,rfl,fun h=>⟨fun _ s hs=>h s ((G6 _ _).2 hs),fun h=>absurd h (by decide)⟩,fun s hs hn=>by
       rw[←D1w,A1H];intro g;rw[g s (.inl ((G6 _ _).1 hs))]at hn;cases hn⟩
     |1,_=>exact⟨J7 (C5 f),rfl,rfl,fun h=>⟨fun _=>a4 (by decide),fun _ s hs=>h s ((G6 _ _).2 hs)⟩,fun s hs hn=>by
       rw[←D1w,A1H];intro g;rw[g s (.inr ((G6 _ _).1 hs))]at hn;cases hn⟩
    have r:(D2 tt ks).length=ks.length:=by simp[D2]
    repeat' (first|with_reducible apply D0a|simp only[go_sem,seval,U,b7,a0,G,a5]|intro o|omega)
    rename_i A;have a6:=o;clear o;refine C4 [1,2,7,32,33,34,39] (fun(s:List Nat)=>[]) (fun(s:List Nat)=>Cs.set A (.rng (D2 tt ks) s)) (fun(s:List Nat)=>∀(i:Nat) (d:i<ks.length),i∈s→(J4 vs ks[i]).isSome=true) (fun(s:List Nat)=>A6e ks.length s) ([]) (fun _ _ h=>absurd h D03) (by simp only[go_sem,seval]) (by first|exact D11 _|exact A0 (by assumption)|exact B2 (by assumption)|simp only[Heap.Le,Heap.set,Heap.del]at* <;>grind) ?_;rintro c0 rfl s hs;have c1:(Cs.set A (.rng (D2 tt ks) s)) A=some (.rng (D2 tt ks) s):=A2 _ _;repeat' simp only[go_sem,seval,c1]
    refine A8W (fun i d hn=>?_) (fun I=>?_)
    ·rw[r]at d;have X:((Cs.set A (.rng (D2 tt ks) s)).set A (.rng (D2 tt ks) (s++[i]))) A=some (.rng (D2 tt ks) (s++[i])):=A2 _ _;have Y:(D2 tt ks)[i]? =some (.str ks[i],.bool true):=by simp[D2,d]
     have C:(D2 tt ks)[i]'(by rw[r];exact d)=(.str ks[i],.bool true):=by simp[D2]
     have L:=fun(Q:D→Heap→Prop) (H:Heap)=>B0f (Q:=Q) vs hv ks[i] (by omega) H;cases hg:(J4 vs ks[i]).isSome with
     |true=>
      rw[hg]at L;repeat' (first|simp only[go_sem,seval,X,Y,C,List.getLast?_concat]|with_reducible refine L _ _ ?_)
      refine C2 (s++[i]) (fun q hq hm=>?_) (A2H d hn) (by simp only[go_sem,seval]) (D11 _);rcases D00.1 hm with z|z
      ·exact hs q hq z
      ·rw[D01]at z;subst z;exact hg
     |false=>
      rw[hg]at L;rw[b9 _ (D0o d) hg]at h;simp only[D0q,if_false]at h;repeat' (first|simp only[go_sem,seval,X,Y,C,List.getLast?_concat]|with_reducible refine L _ _ ?_)
      refine D12 ?_ h;refine u.trans ?_;exact A0 a6
    ·have c3: ∀s∈ks,(J4 vs s).isSome=true:=fun x hx=>by
      obtain⟨i,d,rfl⟩:=List.getElem_of_mem hx;exact hs i d (I i (by rw[r];exact d))
     repeat' (first|simp only[go_sem,seval]|simp(disch:=omega) only[A3,C3])
     exact C2 (j+1) ⟨by omega,b8 c3⟩ (by omega) (by(try simp only[go_sem,seval])<;>(try simp(disch:=omega) [A3])) (A0 a6)
   ·have U:decide ((j:Int)<2)=false:=D0d (by omega);have c4:A3L f vs=true:=(A1H f vs).2 fun s hs=>hs.elim (a4 (by omega) s) (b4 (by omega) s);rw[c4]at h;simp only[if_true]at h;obtain⟨ks,G⟩: ∃ks,ks=J7 (C5 f):=⟨_,rfl⟩
    have r:(D2 tt ks).length=ks.length:=by simp[D2]
    rw[←G];repeat' (first|with_reducible apply D0a|simp only[go_sem,seval,U]|intro o|omega)
    rename_i p;have M:=o;clear o;refine C4 [1,2,54] (fun(s:List Nat)=>[]) (fun(s:List Nat)=>Cs.set p (.rng (D2 tt ks) s)) (fun(s:List Nat)=>∀(i:Nat) (d:i<ks.length),i∈s→((J4 vs ks[i]).getD 0=0∨(J4 vs ks[i]).getD 0=1)) (fun(s:List Nat)=>A6e ks.length s) ([]) (fun _ _ h=>absurd h D03) (by simp only[go_sem,seval]) (by first|exact D11 _|exact A0 (by assumption)|exact B2 (by assumption)|simp only[Heap.Le,Heap.set,Heap.del]at* <;>grind) ?_;rintro c0 rfl s hs;have c5:(Cs.set p (.rng (D2 tt ks) s)) p=some (.rng (D2 tt ks) s):=A2 _ _;have c6:O≠p:=fun e=>by rw[←e,c2]at M;cases M
    have a9:(Cs.set p (.rng (D2 tt ks) s)) O=some (.box (C1 f)):=by rw[A4 _ c6];exact c2
    repeat' simp only[go_sem,seval,c5]
    refine A8W (fun i d hn=>?_) (fun I=>?_)
    ·rw[r]at d;have X:((Cs.set p (.rng (D2 tt ks) s)).set p (.rng (D2 tt ks) (s++[i]))) p=some (.rng (D2 tt ks) (s++[i])):=A2 _ _;have Y:(D2 tt ks)[i]? =some (.str ks[i],.bool true):=by simp[D2,d]
     have C:(D2 tt ks)[i]'(by rw[r];exact d)=(.str ks[i],.bool true):=by simp[D2]
     have L:=fun(Q:D→Heap→Prop) (H:Heap)=>B0f (Q:=Q) vs hv ks[i] (by omega) H;obtain⟨v,V⟩: ∃v,v=(J4 vs ks[i]).getD 0:=⟨_,rfl⟩
     rw[←V]at L;have b0:(v=0∨v=1)→∀(j:Nat) (hj:j<ks.length),j∈s++[i]→((J4 vs ks[j]).getD 0=0∨(J4 vs ks[j]).getD 0=1):=fun b1 q hq hm=>by
      rcases D00.1 hm with z|z
      ·exact hs q hq z
      ·rw[D01]at z;subst z;rw[←V];exact b1
     by_cases v0:v=0
     ·repeat' (first|simp only[go_sem,seval,X,Y,C,List.getLast?_concat,v0]|with_reducible refine L _ _ ?_)
      exact C2 (s++[i]) (b0 (.inl v0)) (A2H d hn) (by simp only[go_sem,seval]) (by simp only[D4,C9,D0]at* <;>grind)
     ·by_cases v1:v=1
      ·repeat' (first|simp only[go_sem,seval,X,Y,C,List.getLast?_concat,v1]|with_reducible refine L _ _ ?_)
       exact C2 (s++[i]) (b0 (.inr v1)) (A2H d hn) (by simp only[go_sem,seval]) (by simp only[D4,C9,D0]at* <;>grind)
      ·have hb:Go.Fo.bits f vs=false:=by
        rw[←D1w,B05];intro g;have:=g ks[i] ((G6 _ _).1 (by rw[←G];exact D0o d));rw[←V]at this;omega
       rw[hb]at h;simp only[D0q,if_false]at h;repeat' (first|simp only[go_sem,seval,X,Y,C,List.getLast?_concat,v0,v1]|with_reducible refine L _ _ ?_)
       refine D12 ?_ h;refine u.trans ?_;exact A0 M
    ·have hb:Go.Fo.bits f vs=true:=(B05 f vs).2 fun x hx=>by
      have c7:x∈ks:=by rw[G];exact(G6 _ _).2 hx
      obtain⟨i,d,rfl⟩:=List.getElem_of_mem c7;exact hs i d (I i (by rw[r];exact d))
     rw[hb]at h;simp only[if_true]at h;repeat' (first|simp only[go_sem,seval,a9]|with_reducible refine C0J vs fv hv f (N0 hf) fa _ ?_)
     exact D12 (u.trans (A0 M)) h
end Go.Proofs.YtibphjonmikciaaGreatDoor
namespace Go.Fo
open Go Go.Av Go.Lexs Go.Lin
theorem B2W(vs:List VlV): ∀(m:List LTm) (k:Int),(∀t∈m,(J4 vs t.v).isSome=true)→∃n,L8 k m vs=some n:=by
 intro m
 induction m with
 |nil=>intro k _;exact⟨k,rfl⟩
 |cons t m d=>
  intro k h;obtain⟨v,hv⟩:=Option.isSome_iff_exists.1 (h t (D0l ..));rw[L8,hv];exact d _ fun x hx=>h x (D0s _ hx)
def A9B(f:Fm)(vs:List VlV):Prop:=∀s,s∈D3 f∨s∈C5 f→(J4 vs s).isSome=true
theorem B44{f k:Fm}{vs:List VlV}(h:A9B f vs)(hk:k∈f.ks):A9B k vs:=fun s hs=>h s (hs.elim (fun g=>.inl ((B06 f s).2 (.inr ⟨k,hk,g⟩))) fun g=>.inr ((B4w f s).2 (.inr ⟨k,hk,g⟩)))
end Go.Fo
namespace Go.Proofs.YtibphjonmikciaaGreatDoor
open Go Go.Av Go.Lexs Go.Lin Go.Fo
attribute [local irreducible] ACalls S7
set_option maxHeartbeats 4000000 in
theorem C7F(vs:List VlV)(fv:A03 vs)(hv:I6 vs=true)(n:Nat): ∀{Q} (f:Fm) (hn:SizeOf.sizeOf f≤n) (X:I0 D6 f=true) (W:FmFit f) (Y:A9B f vs) (H:Heap) (h:Q (.bool (M6 f vs)) H),D8 66 [.agg (C1 f),.sl 2 (Rw vlC vs)] H Q:=by
 induction n with
 |zero=>intro Q f hn;cases f;simp at hn
 |succ n ih=>
 intro Q f hn X W Y H h;refine A9 [(15,.par)] A5 Tryz.func66 rfl ?_;simp only[go_sem,seval,Tryz.results66];have T:=W.kl;have y: ∀k∈f.ks,∀(Q:D→Heap→Prop) (H:Heap),Q (.bool (M6 k vs)) H→D8 66 [.agg (C1 k),.sl 2 (Rw vlC vs)] H Q:=fun k hk Q H hq=>ih k (by have:=R8 hk;omega) (P7 X hk) (W.kid hk) (B44 Y hk) H hq;intro u g2;have e2:(H.set u (.box (C1 f))) u=some (.box (C1 f)):=A2 _ _;have q:H.Le (H.set u (.box (C1 f))):=A0 g2;generalize H.set u (.box (C1 f))=Bs at e2 q⊢;cases V2 X with
 |con m hm=>
  rw[C65 _ rfl]at h;simp only[Fm.n]at h;have db:(m==1)=decide (m=1):=rfl;repeat' (first|with_reducible apply D0a|simp only[go_sem,seval,e2])
  first
   |exact D12 q h
   |(rw[db];exact D12 q h)
 |lin l hl hp=>
  rw[C66 _ rfl]at h;simp only[Fm.l]at h;have fl:S3 l:=W.lin;obtain⟨z,hz⟩:=B2W vs l.t l.k fun t ht=>Y _ (.inl ((B06 _ _).2 (.inl ⟨t,ht,rfl⟩)));have ha:atR l vs=(A29 l z,0):=by unfold atR;rw[if_pos ⟨hl,hv⟩,hz]
  rw[hz]at h;have ac: ∀(Q:D→Heap→Prop) (H:Heap),Q (.tuple [.bool (A29 l z),.int .i64 0]) H→D8 112 [.agg (D9 l),.sl 2 (Rw vlC vs)] H Q:=fun Q H hq=>C6v l fl vs fv H (by rw[ha];exact hq);repeat' (first|with_reducible apply D0a|simp only[go_sem,seval,e2]|with_reducible refine ac _ _ ?_)
  exact D12 q h
 |var s hp=>
  rw[C67 _ rfl]at h;simp only[Fm.s]at h;repeat' (first|with_reducible apply D0a|simp only[go_sem,seval,e2]|with_reducible refine A2D vs fv s _ ?_)
  exact D12 q h
 |not k=>
  rw[C68 _ rfl rfl]at h;have r0:(Rw C1 [k]).getD 0 []=C1 k:=rfl;have G:=y k (D0l ..);repeat' (first|with_reducible apply D0a|simp only[go_sem,seval,e2,r0]|with_reducible refine G _ _ ?_|omega)
  all_goals first
   |exact D12 q h
   |decide
   |omega
 |and ks=>
  rw[C69 _ rfl]at h;simp only[Fm.ks]at h y T;repeat' (first|with_reducible apply D0a|simp only[go_sem,seval,e2])
  refine C4 [1,2,49,50] (fun(i:Nat)=>[(51,.int .i64 i)]) (fun(i:Nat)=>Bs) (fun(i:Nat)=>i≤ks.length∧∀(j:Nat) (J:j<ks.length),j<i→M6 ks[j] vs=true) (fun(i:Nat)=>ks.length-i) (0) (⟨D0v _,fun _ _ h=>by omega⟩) (by(try simp only[go_sem,seval])<;>(try simp(disch:=omega) [A3])) (by first|exact D11 _|exact A0 (by assumption)|exact B2 (by assumption)|simp only[Heap.Le,Heap.set,Heap.del]at* <;>grind) ?_;rintro Ec rfl i ⟨hi,A⟩;by_cases r:i<ks.length
  ·have C:decide ((i:Int)<ks.length)=true:=D0c (by omega);have L:(i:Int)<ks.length:=by omega
   have G:=y ks[i] (D0o r);repeat' (first|with_reducible apply D0a|simp only[go_sem,seval,C,L,A8 _ _ r,B4 _ _ r]|intro I|omega)
   rename_i x;have hx:=I;clear I;have nx:u≠x:=fun e=>by rw[←e,e2]at hx;cases hx
   have f2:(Bs.set x (.box (C1 ks[i]))) u=some (.box (C1 (.mk 5 0 nilL D7 ks))):=by rw[A4 _ nx];exact e2
   have M:(Bs.set x (.box (C1 ks[i]))) x=some (.box (C1 ks[i])):=A2 _ _;have o:Bs.Le (Bs.set x (.box (C1 ks[i]))):=A0 hx;generalize Bs.set x (.box (C1 ks[i]))=Bt at f2 M o⊢;have U:u∈[u,x]:=by simp
   have V:x∈[u,x]:=by simp
   cases d:M6 ks[i] vs with
   |false=>
    rw[d]at G;have p:ks.all (M6 · vs)=false:=by
     rw[List.all_eq_false];exact⟨_,D0o r,by rw[d];decide⟩
    rw[p]at h;refine F2 (fun O=>if O=2 then .bool false else .undef) [u,x] ?_;repeat' (first|simp only[go_sem,seval,f2,M,U,V]|with_reducible refine R2 (fun H' Q hro hq=>G _ H' hq) ?_)
    exact D12 (q.trans o) h
   |true=>
    rw[d]at G;refine F2 (fun O=>if O=2 then .bool true else .undef) [u,x] ?_;repeat' (first|simp only[go_sem,seval,f2,M,U,V]|simp(disch:=omega) only[A3,A8,C3]|with_reducible refine R2 (fun H' Q hro hq=>G _ H' hq) ?_)
    exact C2 (i+1) ⟨by omega,fun j J a0=>(Nat.lt_or_ge j i).elim (fun g=>A j J g) fun g=>by have:j=i:=(by omega);subst this;exact d⟩ (by omega) (by(try simp only[go_sem,seval])<;>(try simp(disch:=omega) [A3])) o
  ·have C:decide ((i:Int)<ks.length)=false:=D0d (by omega);have p:ks.all (M6 · vs)=true:=by
    rw[D1B];intro k hk;obtain⟨j,J,rfl⟩:=List.getElem_of_mem hk;exact A j J (by omega)
   rw[p]at h;repeat' simp only[go_sem,seval,C,e2]
   exact D12 q h
 |or ks=>
  rw[C7A _ rfl]at h;simp only[Fm.ks]at h y T;repeat' (first|with_reducible apply D0a|simp only[go_sem,seval,e2])
  refine C4 [1,2,49,50] (fun(i:Nat)=>[(51,.int .i64 i)]) (fun(i:Nat)=>Bs) (fun(i:Nat)=>i≤ks.length∧∀(j:Nat) (J:j<ks.length),j<i→M6 ks[j] vs=false) (fun(i:Nat)=>ks.length-i) (0) (⟨D0v _,fun _ _ h=>by omega⟩) (by(try simp only[go_sem,seval])<;>(try simp(disch:=omega) [A3])) (by first|exact D11 _|exact A0 (by assumption)|exact B2 (by assumption)|simp only[Heap.Le,Heap.set,Heap.del]at* <;>grind) ?_;rintro Ec rfl i ⟨hi,A⟩;by_cases r:i<ks.length
  ·have C:decide ((i:Int)<ks.length)=true:=D0c (by omega);have L:(i:Int)<ks.length:=by omega
   have G:=y ks[i] (D0o r);repeat' (first|with_reducible apply D0a|simp only[go_sem,seval,C,L,A8 _ _ r,B4 _ _ r]|intro I|omega)
   rename_i x;have hx:=I;clear I;have nx:u≠x:=fun e=>by rw[←e,e2]at hx;cases hx
   have f2:(Bs.set x (.box (C1 ks[i]))) u=some (.box (C1 (.mk 6 0 nilL D7 ks))):=by rw[A4 _ nx];exact e2
   have M:(Bs.set x (.box (C1 ks[i]))) x=some (.box (C1 ks[i])):=A2 _ _;have o:Bs.Le (Bs.set x (.box (C1 ks[i]))):=A0 hx;generalize Bs.set x (.box (C1 ks[i]))=Bt at f2 M o⊢;have U:u∈[u,x]:=by simp
   have V:x∈[u,x]:=by simp
   cases d:M6 ks[i] vs with
   |true=>
    rw[d]at G;have p:ks.any (M6 · vs)=true:=by
     rw[List.any_eq_true];exact⟨_,D0o r,d⟩
    rw[p]at h;refine F2 (fun O=>if O=2 then .bool true else .undef) [u,x] ?_;repeat' (first|simp only[go_sem,seval,f2,M,U,V]|with_reducible refine R2 (fun H' Q hro hq=>G _ H' hq) ?_)
    exact D12 (q.trans o) h
   |false=>
    rw[d]at G;refine F2 (fun O=>if O=2 then .bool false else .undef) [u,x] ?_;repeat' (first|simp only[go_sem,seval,f2,M,U,V]|simp(disch:=omega) only[A3,A8,C3]|with_reducible refine R2 (fun H' Q hro hq=>G _ H' hq) ?_)
    exact C2 (i+1) ⟨by omega,fun j J a0=>(Nat.lt_or_ge j i).elim (fun g=>A j J g) fun g=>by have:j=i:=(by omega);subst this;exact d⟩ (by omega) (by(try simp only[go_sem,seval])<;>(try simp(disch:=omega) [A3])) o
  ·have C:decide ((i:Int)<ks.length)=false:=D0d (by omega);have p:ks.any (M6 · vs)=false:=by
    rw[List.any_eq_false];intro k hk;obtain⟨j,J,rfl⟩:=List.getElem_of_mem hk;rw[A j J (by omega)];decide
   rw[p]at h;repeat' simp only[go_sem,seval,C,e2]
   exact D12 q h
end Go.Proofs.YtibphjonmikciaaGreatDoor
namespace Go.Av
theorem A2Q{b sz:Nat}{es:List (List D)}{d:D}{H H':Heap}{Q:D→Heap→Prop}(hb:H b=some (.vec sz es))
  (A: ∀k o',H' k=some o'→k≠b∧∃o,H k=some o∧OFz b sz es o o') (h:Fin Q d H'):Fin Q d H:=by
 unfold Fin at h⊢;obtain⟨V,d1,h1,x⟩:=h;refine⟨V,d1,Shift.trans (fun w v hr hs=>?_) h1,x⟩;have e: ∀k,H.held k=false→H'.held k=false:=fun k hk=>by
  cases ho:H' k with
  |none=>exact I1 ho
  |some o'=>
   obtain⟨_,o,h1,x⟩:=A k o' ho;rw[J5 h1]at hk;rw[J5 ho];cases x<;>exact hk
 have C: ∀{d d':D} {v:Value},Fz b sz es d d'→R w H d v→R w H' d' v:=fun q hr=>(q.R hs hb hr).mono (D18 _ _) fun k _ hk=>by
  by_cases y:k=b
  ·subst y;cases ho:H' k with
   |none=>exact I1 ho
   |some o'=>exact absurd rfl (A k o' ho).1
  ·refine e k ?_;rw[←A0V (H:=H) (H':=H.del b) (k:=k) (by unfold Heap.del;rw[if_neg y])];exact hk
 refine⟨C (.same d) hr,fun k o' ho=>?_,e⟩;obtain⟨_,o,h1,x⟩:=A k o' ho;have r:=hs k o h1;cases x with
 |same=>exact r.mono (D18 H w) (fun k _ hk=>e k hk) rfl
 |box cs cs' Z hl q=>
  obtain⟨c,T,lo,G,I,J,O,z,L⟩:=r;refine⟨c,T,lo,G,I,J,by omega,fun j d' m=>?_,L⟩;have W:=(D0k.1 m).1;have u:cs[j]? =some (cs[j]'(by omega)):=D0r _;have p:=q j _ _ u m;exact⟨p.one (z j _ u).1,C p (z j _ u).2⟩
 |vec s xs xs' hl q=>
  obtain⟨c,T,lo,G,I,J,O,z,L,U⟩:=r;refine⟨c,T,lo,G,I,J,O,by rw[←hl];exact z,fun i x' g=>?_,fun i x' j d' g m=>?_⟩
  ·have M:=(D0k.1 g).1;have hx:xs[i]? =some (xs[i]'(by omega)):=D0r _;rw[←(q i _ _ hx g).1];exact L i _ hx
  ·have M:=(D0k.1 g).1;have hx:xs[i]? =some (xs[i]'(by omega)):=D0r _;have hlen:=(q i _ _ hx g).1;have W:=(D0k.1 m).1;have u:(xs[i]'(by omega))[j]? =some ((xs[i]'(by omega))[j]'(by omega)):=D0r _;have p:=(q i _ _ hx g).2 j _ _ u m;exact⟨p.one (U i _ j _ hx u).1,C p (U i _ j _ hx u).2⟩
def fzD(b sz:Nat)(es:List (List D)):D→D→Prop
 |d,d'=>d=d'∨(d= .vec b sz 0 es.length∧d'= .sl sz es)
theorem C36{b sz:Nat}{es:List (List D)}{d d':D}(h:fzD b sz es d d'):Fz b sz es d d':=by
 rcases h with rfl|⟨rfl,rfl⟩
 ·exact .same _
 ·exact .all
def fzL(b sz:Nat)(es:List (List D)):List D→List D→Prop
 | [],[]=>True
 |d::l,d'::l'=>fzD b sz es d d'∧fzL b sz es l l'
 |_,_=>False
theorem A9C{b sz:Nat}{es:List (List D)}: ∀{l l':List D},fzL b sz es l l'→l.length=l'.length∧∀(i:Nat) d d',l[i]? =some d→l'[i]? =some d'→Fz b sz es d d'
 | [],[],_=>⟨rfl,fun i d d' h=>by cases h⟩
 |d::l,d'::l',h=>by
  obtain⟨h1,g⟩:=A9C h.2;refine⟨by rw[D0f,D0f,h1],fun i x x' hx e=>?_⟩;cases i with
  |zero=>cases hx;cases e;exact C36 h.1
  |succ i=>exact g i x x' hx e
 | [],_::_,h=>h.elim
 |_::_,[],h=>h.elim
def fzV(b sz:Nat)(es:List (List D)):List (List D)→List (List D)→Prop
 | [],[]=>True
 |d::l,d'::l'=>fzL b sz es d d'∧fzV b sz es l l'
 |_,_=>False
theorem A9D{b sz:Nat}{es:List (List D)}: ∀{l l':List (List D)},fzV b sz es l l'→l.length=l'.length∧∀(i:Nat) x x',l[i]? =some x→l'[i]? =some x'→x.length=x'.length∧∀(j:Nat) d d',x[j]? =some d→x'[j]? =some d'→Fz b sz es d d'
 | [],[],_=>⟨rfl,fun i d d' h=>by cases h⟩
 |d::l,d'::l',h=>by
  obtain⟨h1,g⟩:=A9D h.2;refine⟨by rw[D0f,D0f,h1],fun i x x' hx e=>?_⟩;cases i with
  |zero=>cases hx;cases e;exact A9C h.1
  |succ i=>exact g i x x' hx e
 | [],_::_,h=>h.elim
 |_::_,[],h=>h.elim
theorem A2n{b sz c s:Nat}{es xs xs':List (List D)}{H G:Heap}(hc:H c=some (.vec s xs))(d:c≠b)(g:fzV b sz es xs xs')(h: ∀k o',G k=some o'→k≠b∧∃o,H k=some o∧OFz b sz es o o'):
  ∀k o',(G.set c (.vec s xs')) k=some o'→k≠b∧∃o,H k=some o∧OFz b sz es o o':=by
 intro k o' hk;by_cases e:k=c
 ·subst e;rw[A2]at hk;cases hk;exact⟨d,_,hc,.vec _ _ _ (A9D g).1 (A9D g).2⟩
 ·rw[A4 _ e]at hk;exact h k o' hk
theorem B72{b sz:Nat}{es:List (List D)}{H G:Heap}(h:G.Le H)(hb:G b=none): ∀k o',G k=some o'→k≠b∧∃o,H k=some o∧OFz b sz es o o':=fun k o' hk=>⟨fun e=>(by rw[e,hb]at hk;cases hk),o',h k o' hk,.same _⟩
def nlD:D→D→Prop
 |d,d'=>d=d'∨NilR d d'
def nlL:List D→List D→Prop
 | [],[]=>True
 |d::l,d'::l'=>nlD d d'∧nlL l l'
 |_,_=>False
theorem A5f: ∀{l l':List D},nlL l l'→l.length=l'.length∧∀(i:Nat) d d',l[i]? =some d→l'[i]? =some d'→NilR d d'
 | [],[],_=>⟨rfl,fun i d d' h=>by cases h⟩
 |d::l,d'::l',h=>by
  obtain⟨h1,g⟩:=A5f h.2;refine⟨by rw[D0f,D0f,h1],fun i x x' hx e=>?_⟩;cases i with
  |zero=>cases hx;cases e;rcases h.1 with rfl|q;exact .same _;exact q
  |succ i=>exact g i x x' hx e
 | [],_::_,h=>h.elim
 |_::_,[],h=>h.elim
def nlV:List (List D)→List (List D)→Prop
 | [],[]=>True
 |d::l,d'::l'=>nlL d d'∧nlV l l'
 |_,_=>False
theorem A5g: ∀{l l':List (List D)},nlV l l'→l.length=l'.length∧∀(i:Nat) x x',l[i]? =some x→l'[i]? =some x'→x.length=x'.length∧∀(j:Nat) d d',x[j]? =some d→x'[j]? =some d'→NilR d d'
 | [],[],_=>⟨rfl,fun i d d' h=>by cases h⟩
 |d::l,d'::l',h=>by
  obtain⟨h1,g⟩:=A5g h.2;refine⟨by rw[D0f,D0f,h1],fun i x x' hx e=>?_⟩;cases i with
  |zero=>cases hx;cases e;exact A5f h.1
  |succ i=>exact g i x x' hx e
 | [],_::_,h=>h.elim
 |_::_,[],h=>h.elim
theorem B73{z:Nat}{es es':List (List D)}(h:nlV es es'):NilR (.sl z es) (.sl z es'):=
 .sl z es es' (A5g h).1 (fun i e e' h1 g=>((A5g h).2 i e e' h1 g).1) fun i e e' j d d' h1 g m o=>((A5g h).2 i e e' h1 g).2 j d d' m o
theorem C37{cs cs':List D}(h:nlL cs cs'):NilR (.agg cs) (.agg cs'):=.agg _ _ (A5f h).1 (A5f h).2
end Go.Av
namespace Go.Proofs.YtibphjonmikciaaGreatDoor
open Go Go.Av Go.Lexs Go.Lin Go.Fo
attribute [local irreducible] ACalls S7
theorem A73{Q}(H:Heap)(h:Q (.agg (C1 fxF)) H):D8 44 [] H Q:=by
 refine A9 [] A5 Tryz.func44 rfl ?_;simp only[go_sem,seval,Tryz.results44];repeat' (first|simp only[go_sem,seval]|simp(disch:=first|omega|grind) only[C0,F1]|(intro m;try simp only[A6]at m))
 rename_i A J a L p hp q hq d1 h1 d C g;have u:=m;clear m;have i:a≠A∧a≠p∧a≠q∧a≠d1∧a≠d∧a≠g:=⟨L.1,hp.1.symm,hq.2.1.symm,h1.2.2.1.symm,C.2.2.2.1.symm,u.2.2.2.2.1.symm⟩
 have j:d1≠A∧d1≠d∧d1≠g:=⟨h1.2.2.2.1,C.1.symm,u.2.1.symm⟩
 have ne:d≠A∧d≠g:=⟨C.2.2.2.2.1,u.1.symm⟩
 have U:g≠A:=u.2.2.2.2.2.1;have T:H a=none:=L.2;have M:H d1=none:=h1.2.2.2.2;have G:H d=none:=C.2.2.2.2.2;have V:H p=none:=hp.2.2;have W:H q=none:=hq.2.2.2;have I:H g=none:=u.2.2.2.2.2.2;clear L hp hq h1 C u;refine A2Q (b:=a) (sz:=2) (es:=[[.str ⟨#[120]⟩,.int .i64 1]]) (by rw[A4 _ i.1,A4 _ i.2.2.2.2.2,A4 _ i.2.2.2.2.1,A4 _ i.2.2.2.1,A4 _ i.2.2.1,A4 _ i.2.1,A2]) (H':=((H.set d1 (.vec 7 [[.int .i64 3,.int .i64 0,.nilsl,.int .i64 0,.bool false,.str ⟨#[98]⟩,.nilsl]])).set d (.vec 7 ([[.int .i64 2,.int .i64 0,.sl 2 [[.str ⟨#[120]⟩,.int .i64 1]],.int .i64 (-3),.bool true,.str ⟨#[]⟩,.nilsl],[.int .i64 4,.int .i64 0,.nilsl,.int .i64 0,.bool false,.str ⟨#[]⟩,.vec d1 7 0 1]]))).set g (.vec 7 ([[.int .i64 2,.int .i64 0,.sl 2 [[.str ⟨#[120]⟩,.int .i64 1]],.int .i64 (-1),.bool false,.str ⟨#[]⟩,.nilsl],[.int .i64 6,.int .i64 0,.nilsl,.int .i64 0,.bool false,.str ⟨#[]⟩,.vec d 7 0 2]]))) ?_ ?_
 ·refine A2n (xs:=[[.int .i64 2,.int .i64 0,.vec a 2 0 1,.int .i64 (-1),.bool false,.str ⟨#[]⟩,.nilsl],[.int .i64 6,.int .i64 0,.nilsl,.int .i64 0,.bool false,.str ⟨#[]⟩,.vec d 7 0 2]]) (by rw[A4 _ U,A2]) i.2.2.2.2.2.symm (by simp[fzV,fzL,fzD]) (A2n (xs:=[[.int .i64 2,.int .i64 0,.vec a 2 0 1,.int .i64 (-3),.bool true,.str ⟨#[]⟩,.nilsl],[.int .i64 4,.int .i64 0,.nilsl,.int .i64 0,.bool false,.str ⟨#[]⟩,.vec d1 7 0 1]]) (by rw[A4 _ ne.1,A4 _ ne.2,A2]) i.2.2.2.2.1.symm (by simp[fzV,fzL,fzD]) (A2n (xs:=[[.int .i64 3,.int .i64 0,.nilsl,.int .i64 0,.bool false,.str ⟨#[98]⟩,.nilsl]]) (by rw[A4 _ j.1,A4 _ j.2.2,A4 _ j.2.1,A2]) i.2.2.2.1.symm (by simp[fzV,fzL,fzD]) (B72 ?_ T)));intro k o hk;by_cases O:k=A
  ·rw[O,J]at hk;cases hk
  ·have y: ∀x,H x=none→k≠x:=fun x hx e=>by rw[e,hx]at hk;cases hk
   rw[A4 _ O,A4 _ (y _ I),A4 _ (y _ G),A4 _ (y _ M),A4 _ (y _ W),A4 _ (y _ V),A4 _ (y _ T),A4 _ O];exact hk
 refine A2Q (b:=d1) (sz:=7) (es:=[[.int .i64 3,.int .i64 0,.nilsl,.int .i64 0,.bool false,.str ⟨#[98]⟩,.nilsl]]) (by rw[A4 _ j.2.2,A4 _ j.2.1,A2]) (H':=(H.set d (.vec 7 ([[.int .i64 2,.int .i64 0,.sl 2 [[.str ⟨#[120]⟩,.int .i64 1]],.int .i64 (-3),.bool true,.str ⟨#[]⟩,.nilsl],[.int .i64 4,.int .i64 0,.nilsl,.int .i64 0,.bool false,.str ⟨#[]⟩,.sl 7 [[.int .i64 3,.int .i64 0,.nilsl,.int .i64 0,.bool false,.str ⟨#[98]⟩,.nilsl]]]]))).set g (.vec 7 ([[.int .i64 2,.int .i64 0,.sl 2 [[.str ⟨#[120]⟩,.int .i64 1]],.int .i64 (-1),.bool false,.str ⟨#[]⟩,.nilsl],[.int .i64 6,.int .i64 0,.nilsl,.int .i64 0,.bool false,.str ⟨#[]⟩,.vec d 7 0 2]]))) ?_ ?_
 ·refine A2n (xs:=[[.int .i64 2,.int .i64 0,.sl 2 [[.str ⟨#[120]⟩,.int .i64 1]],.int .i64 (-1),.bool false,.str ⟨#[]⟩,.nilsl],[.int .i64 6,.int .i64 0,.nilsl,.int .i64 0,.bool false,.str ⟨#[]⟩,.vec d 7 0 2]]) (A2 _ _) j.2.2.symm (by simp[fzV,fzL,fzD]) (A2n (xs:=[[.int .i64 2,.int .i64 0,.sl 2 [[.str ⟨#[120]⟩,.int .i64 1]],.int .i64 (-3),.bool true,.str ⟨#[]⟩,.nilsl],[.int .i64 4,.int .i64 0,.nilsl,.int .i64 0,.bool false,.str ⟨#[]⟩,.vec d1 7 0 1]]) (by rw[A4 _ ne.2,A2]) j.2.1.symm (by simp[fzV,fzL,fzD]) (B72 ?_ M));exact(A0 M).trans ((A0 (by rw[A4 _ j.2.1.symm];exact G)).trans (A0 (by rw[A4 _ ne.2.symm,A4 _ j.2.2.symm];exact I)))
 refine A2Q (b:=d) (sz:=7) (es:=[[.int .i64 2,.int .i64 0,.sl 2 [[.str ⟨#[120]⟩,.int .i64 1]],.int .i64 (-3),.bool true,.str ⟨#[]⟩,.nilsl],[.int .i64 4,.int .i64 0,.nilsl,.int .i64 0,.bool false,.str ⟨#[]⟩,.sl 7 [[.int .i64 3,.int .i64 0,.nilsl,.int .i64 0,.bool false,.str ⟨#[98]⟩,.nilsl]]]]) (by rw[A4 _ ne.2,A2]) (H':=H.set g (.vec 7 ([[.int .i64 2,.int .i64 0,.sl 2 [[.str ⟨#[120]⟩,.int .i64 1]],.int .i64 (-1),.bool false,.str ⟨#[]⟩,.nilsl],[.int .i64 6,.int .i64 0,.nilsl,.int .i64 0,.bool false,.str ⟨#[]⟩,.sl 7 ([[.int .i64 2,.int .i64 0,.sl 2 [[.str ⟨#[120]⟩,.int .i64 1]],.int .i64 (-3),.bool true,.str ⟨#[]⟩,.nilsl],[.int .i64 4,.int .i64 0,.nilsl,.int .i64 0,.bool false,.str ⟨#[]⟩,.sl 7 [[.int .i64 3,.int .i64 0,.nilsl,.int .i64 0,.bool false,.str ⟨#[98]⟩,.nilsl]]]])]]))) ?_ ?_
 ·refine A2n (xs:=[[.int .i64 2,.int .i64 0,.sl 2 [[.str ⟨#[120]⟩,.int .i64 1]],.int .i64 (-1),.bool false,.str ⟨#[]⟩,.nilsl],[.int .i64 6,.int .i64 0,.nilsl,.int .i64 0,.bool false,.str ⟨#[]⟩,.vec d 7 0 2]]) (A2 _ _) ne.2.symm (by simp[fzV,fzL,fzD]) (B72 ?_ G);exact(A0 G).trans (A0 (by rw[A4 _ ne.2.symm];exact I))
 refine V5 (b:=g) (sz:=7) (es:=[[.int .i64 2,.int .i64 0,.sl 2 [[.str ⟨#[120]⟩,.int .i64 1]],.int .i64 (-1),.bool false,.str ⟨#[]⟩,.nilsl],[.int .i64 6,.int .i64 0,.nilsl,.int .i64 0,.bool false,.str ⟨#[]⟩,.sl 7 ([[.int .i64 2,.int .i64 0,.sl 2 [[.str ⟨#[120]⟩,.int .i64 1]],.int .i64 (-3),.bool true,.str ⟨#[]⟩,.nilsl],[.int .i64 4,.int .i64 0,.nilsl,.int .i64 0,.bool false,.str ⟨#[]⟩,.sl 7 [[.int .i64 3,.int .i64 0,.nilsl,.int .i64 0,.bool false,.str ⟨#[98]⟩,.nilsl]]]])]]) (cs':=[.int .i64 5,.int .i64 0,.nilsl,.int .i64 0,.bool false,.str ⟨#[]⟩,.sl 7 ([[.int .i64 2,.int .i64 0,.sl 2 [[.str ⟨#[120]⟩,.int .i64 1]],.int .i64 (-1),.bool false,.str ⟨#[]⟩,.nilsl],[.int .i64 6,.int .i64 0,.nilsl,.int .i64 0,.bool false,.str ⟨#[]⟩,.sl 7 ([[.int .i64 2,.int .i64 0,.sl 2 [[.str ⟨#[120]⟩,.int .i64 1]],.int .i64 (-3),.bool true,.str ⟨#[]⟩,.nilsl],[.int .i64 4,.int .i64 0,.nilsl,.int .i64 0,.bool false,.str ⟨#[]⟩,.sl 7 [[.int .i64 3,.int .i64 0,.nilsl,.int .i64 0,.bool false,.str ⟨#[98]⟩,.nilsl]]]])]])]) (A2 _ _) rfl (A9C (by simp[fzL,fzD])).2 ?_;refine E5 (d':=.agg (C1 fxF)) ?_ (D12 ?_ h)
 ·have e:C1 fxF= [.int .i64 5,.int .i64 0,.sl 2 [],.int .i64 0,.bool false,.str ⟨#[]⟩,.sl 7 ([[.int .i64 2,.int .i64 0,.sl 2 [[.str ⟨#[120]⟩,.int .i64 1]],.int .i64 (-1),.bool false,.str ⟨#[]⟩,.sl 7 []],[.int .i64 6,.int .i64 0,.sl 2 [],.int .i64 0,.bool false,.str ⟨#[]⟩,.sl 7 ([[.int .i64 2,.int .i64 0,.sl 2 [[.str ⟨#[120]⟩,.int .i64 1]],.int .i64 (-3),.bool true,.str ⟨#[]⟩,.sl 7 []],[.int .i64 4,.int .i64 0,.sl 2 [],.int .i64 0,.bool false,.str ⟨#[]⟩,.sl 7 [[.int .i64 3,.int .i64 0,.sl 2 [],.int .i64 0,.bool false,.str ⟨#[98]⟩,.sl 7 []]]]])]])]:=rfl;rw[e];have r: ∀z,NilR .nilsl (.sl z []):=NilR.nil;refine C37 ?_;refine⟨.inl rfl,.inl rfl,.inr (r _),.inl rfl,.inl rfl,.inl rfl,.inr (B73 ?_),trivial⟩;refine⟨⟨.inl rfl,.inl rfl,.inl rfl,.inl rfl,.inl rfl,.inl rfl,.inr (r _),trivial⟩,⟨.inl rfl,.inl rfl,.inr (r _),.inl rfl,.inl rfl,.inl rfl,.inr (B73 ?_),trivial⟩,trivial⟩;refine⟨⟨.inl rfl,.inl rfl,.inl rfl,.inl rfl,.inl rfl,.inl rfl,.inr (r _),trivial⟩,⟨.inl rfl,.inl rfl,.inr (r _),.inl rfl,.inl rfl,.inl rfl,.inr (B73 ?_),trivial⟩,trivial⟩;exact⟨⟨.inl rfl,.inl rfl,.inr (r _),.inl rfl,.inl rfl,.inl rfl,.inr (r _),trivial⟩,trivial⟩
 ·intro k o hk;have:k≠g:=fun e=>by rw[e,I]at hk;cases hk
  show ((H.set g _).del g) k=_;rw[F1 this,A4 _ this];exact hk
theorem B74(f:Fm)(x:FmFit f): ∀{Q:D→Heap→Prop} (H:Heap) (h:Q (.bool true) H),D8 21 [.agg (C1 f),.agg (C1 f)] H Q:=by
 induction x with
 |mk o n l s ks ho hn hl hs hk I y=>
 intro Q H h;have e:C1 (.mk o n l s ks)= [.int .i64 o,.int .i64 n,.sl 2 (Rw S1 l.t),.int .i64 l.k,.bool l.e,.str s,.sl 7 (Rw C1 ks)]:=N7 _;rw[e];refine A9 [(6,.par)] A5 Tryz.func21 rfl ?_;simp only[go_sem,seval,Tryz.results21];intro g z j r;simp only[A6]at r;have e2:((H.set g (.box [.int .i64 o,.int .i64 n,.sl 2 (Rw S1 l.t),.int .i64 l.k,.bool l.e,.str s,.sl 7 (Rw C1 ks)])).set j (.box [.int .i64 o,.int .i64 n,.sl 2 (Rw S1 l.t),.int .i64 l.k,.bool l.e,.str s,.sl 7 (Rw C1 ks)])) g=some (.box [.int .i64 o,.int .i64 n,.sl 2 (Rw S1 l.t),.int .i64 l.k,.bool l.e,.str s,.sl 7 (Rw C1 ks)]):=by rw[A4 _ r.1.symm,A2]
 have e3:((H.set g (.box [.int .i64 o,.int .i64 n,.sl 2 (Rw S1 l.t),.int .i64 l.k,.bool l.e,.str s,.sl 7 (Rw C1 ks)])).set j (.box [.int .i64 o,.int .i64 n,.sl 2 (Rw S1 l.t),.int .i64 l.k,.bool l.e,.str s,.sl 7 (Rw C1 ks)])) j=some (.box [.int .i64 o,.int .i64 n,.sl 2 (Rw S1 l.t),.int .i64 l.k,.bool l.e,.str s,.sl 7 (Rw C1 ks)]):=A2 _ _;have p:H.Le ((H.set g (.box [.int .i64 o,.int .i64 n,.sl 2 (Rw S1 l.t),.int .i64 l.k,.bool l.e,.str s,.sl 7 (Rw C1 ks)])).set j (.box [.int .i64 o,.int .i64 n,.sl 2 (Rw S1 l.t),.int .i64 l.k,.bool l.e,.str s,.sl 7 (Rw C1 ks)])):=(A0 z).trans (A0 (by simp only[A6];exact r));generalize (H.set g (.box [.int .i64 o,.int .i64 n,.sl 2 (Rw S1 l.t),.int .i64 l.k,.bool l.e,.str s,.sl 7 (Rw C1 ks)])).set j (.box [.int .i64 o,.int .i64 n,.sl 2 (Rw S1 l.t),.int .i64 l.k,.bool l.e,.str s,.sl 7 (Rw C1 ks)])=Bs at e2 e3 p⊢;have A:g∈[g,j]:=by simp
 have C:j∈[g,j]:=by simp
 have hc: ∀{Q:D→Heap→Prop} (H:Heap) (h:Q (.bool true) H),D8 60 [.agg [.sl 2 (Rw S1 l.t),.int .i64 l.k,.bool l.e],.agg [.sl 2 (Rw S1 l.t),.int .i64 l.k,.bool l.e]] H Q:=fun H h=>B9i l hl H h;repeat' (first|simp only[go_sem,seval,e2,e3]|with_reducible refine hc _ ?_)
 refine C4 [2,3,44] (fun(i:Nat)=>[(45,.int .i64 i)]) (fun(i:Nat)=>Bs) (fun(i:Nat)=>i≤ks.length) (fun(i:Nat)=>ks.length-i) (0) (D0v _) (by(try simp only[go_sem,seval])<;>(try simp(disch:=omega) [A3])) (by first|exact D11 _|exact A0 (by assumption)|exact B2 (by assumption)|simp only[Heap.Le,Heap.set,Heap.del]at* <;>grind) ?_;rintro J rfl i L;by_cases d:i<ks.length
 ·have m:decide ((i:Int)<ks.length)=true:=D0c (by omega);have q:(i:Int)<ks.length:=by omega
  have u: ∀{Q:D→Heap→Prop} (H:Heap) (h:Q (.bool true) H),D8 21 [.agg (C1 ks[i]),.agg (C1 ks[i])] H Q:=y ks[i] (D0o d);repeat' simp only[go_sem,seval,m,q,A8 _ _ d,B4 _ _ d]
  refine F2 (fun G=>if G=10 then .bool true else .undef) [g,j] ?_;repeat' (first|with_reducible apply D0a|simp only[go_sem,seval,m,q,A8 _ _ d,B4 _ _ d,e2,e3,A,C]|simp(disch:=omega) only[A3,A8,C3]|with_reducible refine R2 (fun H' Q hro hq=>u H' hq) ?_|omega)
  exact C2 (i+1) (by omega) (by omega) (by(try simp only[go_sem,seval])<;>(try simp(disch:=omega) [A3])) (by simp only[D4,C9,D0]at* <;>grind)
 ·have m:decide ((i:Int)<ks.length)=false:=D0d (by omega);repeat' simp only[go_sem,seval,m]
  exact D12 p h
theorem C0M{Q}(l:List VlV)(j:A03 l)(H:Heap)(h:Q (.bool true) H):D8 35 [.sl 2 (Rw vlC l),.sl 2 (Rw vlC l)] H Q:=by
 refine A9 [(6,.par)] A5 Tryz.func35 rfl ?_;simp only[go_sem,seval,Tryz.results35];have hlen:=j.len;refine C4 [0,1,12] (fun(i:Nat)=>[(13,.int .i64 i)]) (fun(i:Nat)=>H) (fun(i:Nat)=>i≤l.length) (fun(i:Nat)=>l.length-i) (0) (D0v _) (by(try simp only[go_sem,seval])<;>(try simp(disch:=omega) [A3])) (by first|exact D11 _|exact A0 (by assumption)|exact B2 (by assumption)|simp only[Heap.Le,Heap.set,Heap.del]at* <;>grind) ?_;rintro m rfl i o;by_cases d:i<l.length
 ·have e:decide ((i:Int)<l.length)=true:=D0c (by omega);have g:(i:Int)<l.length:=by omega
  repeat' simp only[go_sem,seval,e,g,A8 _ _ d,B4 _ _ d]
  refine F2 (fun p=>.undef) [] ?_;repeat' (first|with_reducible apply D0a|simp only[go_sem,seval,e,g,A8 _ _ d,B4 _ _ d]|simp(disch:=omega) only[A3,A8,C3]|omega)
  exact C2 (i+1) (by omega) (by omega) (by(try simp only[go_sem,seval])<;>(try simp(disch:=omega) [A3])) (by simp only[D4,C9,D0]at* <;>grind)
 ·have e:decide ((i:Int)<l.length)=false:=D0d (by omega);repeat' simp only[go_sem,seval,e]
  exact D15 h
end Go.Proofs.YtibphjonmikciaaGreatDoor
namespace Go.Fo
open Go Go.Av Go.Lexs Go.Lin
theorem RdS.same{H H':Heap}{br:Nat}{r:List UInt8}{bad:Bool}(h:RdS H H' br r bad)(hb:H br=some (.box [.str (S r),.bool bad])):H'=H:=by
 funext k
 by_cases e:k=br
 ·rw[e,h.here,hb]
 ·exact h.els k e
theorem A1m{H i H':Heap}{br d:Nat}{r:List UInt8}{bad:Bool}(s:RdS i H' br r bad)(g:(H.del br).Le i)(j:H d=none)(h:br≠d)(V:Av.Obj):(H.set br (.box [.str (S r),.bool bad])).Le (H'.set d V):=fun k o hk=>by
 by_cases e:k=br
 ·subst e;rw[A2]at hk;rw[A4 _ h,s.here];exact hk
 ·rw[A4 _ e]at hk;have m:k≠d:=fun e=>by rw[e,j]at hk;cases hk
  rw[A4 _ m,s.els k e];exact g k o (by rw[F1 e];exact hk)
theorem C0N{H i H':Heap}{br g x:Nat}{r:List UInt8}{bad:Bool}(s:RdS i H' br r bad)(d:(H.del br).Le i)(p:H g=none)(h:br≠g)(hx:H' x=none)(o1 V:Av.Obj):(H.set br (.box [.str (S r),.bool bad])).Le (((H'.set x o1).set g V).del x):=fun k o hk=>by
 have h1:=A1m s d p h V k o hk;have j:k≠x:=fun e=>by
  by_cases e2:k=br
  ·rw[←e,e2,s.here]at hx;cases hx
  ·rw[A4 _ e2]at hk;have:=d k o (by rw[F1 e2];exact hk);rw[←s.els k e2,e,hx]at this;cases this
 rw[F1 j];by_cases m:k=g
 ·subst m;rw[A2]at h1⊢;exact h1
 ·rw[A4 _ m]at h1⊢;rw[A4 _ j];exact h1
theorem A74(r:List UInt8):Q8 r=r.drop (L9 r).length:=by
 have h:L9 r++Q8 r=r:=List.takeWhile_append_dropWhile
 conv=>rhs;rw[←h]
 rw[List.drop_left' (by rw[h])]
theorem B45{d:List UInt8→Fm×List UInt8×Bool}(g: ∀r,∃j,(d r).2.1=r.drop j): ∀n r out,∃j,(A1E d n r out).2.1=r.drop j:=by
 intro n
 induction n with
 |zero=>intro r out;exact⟨0,rfl⟩
 |succ n h=>
  intro r out;obtain⟨j,e⟩:=g r;rw[A1E];split
  ·exact⟨j+1,by show (d r).2.1.drop 1=_;rw[e,D1k]⟩
  ·split
   ·exact⟨j,e⟩
   ·split
    ·obtain⟨k,hk⟩:=h ((d r).2.1.drop 2) (out++[(d r).1]);exact⟨j+(2+k),by rw[hk,e,D1k,D1k]⟩
    ·exact⟨j,e⟩
theorem B46: ∀e r,∃j,(G7 e r).2.1=r.drop j:=by
 intro e
 induction e with
 |zero=>intro r;exact⟨0,rfl⟩
 |succ e g=>
  intro r;have hl: ∀k,∃j,(Y9 (G7 e) (r.drop k)).2.1=r.drop j:=fun k=>by
   unfold Y9;split
   ·exact⟨k+1,by show (r.drop k).drop 1=_;rw[D1k]⟩
   ·obtain⟨j,d⟩:=B45 g ((r.drop k).length+1) (r.drop k) [];exact⟨k+j,by rw[d,D1k]⟩
  rw[G7];split
  ·exact⟨1+(L9 (r.drop 1)).length,by show Q8 (r.drop 1)=_;rw[A74,D1k]⟩
  ·split
   ·obtain⟨j,d⟩:=g (r.drop 1);exact⟨1+j,by show (G7 e (r.drop 1)).2.1=_;rw[d,D1k]⟩
   ·split
    ·exact hl 2
    ·split
     ·exact hl 2
     ·exact⟨_,A74 r⟩
end Go.Fo
namespace Go.Proofs.YtibphjonmikciaaGreatDoor
open Go Go.Av Go.Lexs Go.Lin Go.Fo
attribute [local irreducible] ACalls S7
theorem A9E(w:List UInt8)(l:List UInt8):(S w=⟨l.toArray⟩)=(w=l):=propext ⟨fun h=>C5d h,fun h=>by rw[h];rfl⟩
theorem C38:A71 0:=by
 intro Q br r hr hx H q hb h;have p:((61:Int)-(0:Nat))=61:=by omega
 rw[p];refine A9 [] A5 Tryz.func71 rfl ?_;simp only[go_sem,seval,Tryz.results71];intro g j;have i:br≠g:=fun e=>by rw[←e,hb]at j;cases j
 have m:(H.set g (.box [.int .i64 0,.int .i64 0,.nilsl,.int .i64 0,.bool false,.str ⟨#[]⟩,.nilsl])) br=some (.box [.str (S r),.bool false]):=by rw[A4 _ i];exact hb
 have o:(H.set g (.box [.int .i64 0,.int .i64 0,.nilsl,.int .i64 0,.bool false,.str ⟨#[]⟩,.nilsl])) g=some (.box [.int .i64 0,.int .i64 0,.nilsl,.int .i64 0,.bool false,.str ⟨#[]⟩,.nilsl]):=A2 _ _;have d:(H.del br).Le (H.set g (.box [.int .i64 0,.int .i64 0,.nilsl,.int .i64 0,.bool false,.str ⟨#[]⟩,.nilsl])):=(E6 _ _).trans (A0 j);generalize H.set g (.box [.int .i64 0,.int .i64 0,.nilsl,.int .i64 0,.bool false,.str ⟨#[]⟩,.nilsl])=Bs at m o d⊢;have f4:(Bs.set br (.box [.str (S r),.bool true])) g=some (.box [.int .i64 0,.int .i64 0,.nilsl,.int .i64 0,.bool false,.str ⟨#[]⟩,.nilsl]):=by rw[A4 _ i.symm];exact o
 repeat' simp only[go_sem,seval,m,f4]
 exact E5 (A4e 0 0 0 false D7) (D12 (A1m (RdS.set Bs br r true) d j i _) (h _ (RdS.set _ _ _ _)))
set_option maxHeartbeats 4000000 in
theorem C39(e:Nat)(he:e+1≤60)(hF:A71 e):A71 (e+1):=by
 intro Q br r hr hx H hT hb h;obtain⟨dp,b9⟩: ∃dp:Int,dp=61-((e+1:Nat):Int):=⟨_,rfl⟩
 have c6:1≤dp:=by omega
 have c7:dp≤60:=by omega
 have O:IntKind.i64.wrap (dp+1)=61-(e:Int):=by rw[A3 (by omega) (by omega)];omega
 rw[←b9];refine A9 [] A5 Tryz.func71 rfl ?_;simp only[go_sem,seval,Tryz.results71];intro j u;have d:br≠j:=fun e=>by rw[←e,hb]at u;cases u
 obtain⟨Z,hZ⟩: ∃Z:List D,Z= [.int .i64 0,.int .i64 0,.nilsl,.int .i64 0,.bool false,.str ⟨#[]⟩,.nilsl]:=⟨_,rfl⟩
 rw[←hZ];have e4:(H.set j (.box Z)) j=some (.box Z):=A2 _ _;have y:(H.set j (.box Z)) br=some (.box [.str (S r),.bool false]):=by rw[A4 _ d];exact hb
 have a0:H.Le (H.set j (.box Z)):=A0 u;have g:(H.del br).Le (H.set j (.box Z)):=(E6 _ _).trans a0;generalize H.set j (.box Z)=Bs at e4 y a0 g⊢;have T:(H.del br) br=none:=by simp[Heap.del]
 have tb: ∀{Hx:Heap} {r':List UInt8} {bd:Bool},RdS Bs Hx br r' bd→Tabs Hx:=fun s=>hT.rd hb (s.le g T);have a4:B (⟨#[63]⟩:ByteArray)= [63]:=rfl;have a5:B (⟨#[33]⟩:ByteArray)= [33]:=rfl;have a6:B (⟨#[38,40]⟩:ByteArray)= [38,40]:=rfl;have J:B (⟨#[124,40]⟩:ByteArray)= [124,40]:=rfl;have c0:(⟨#[63]⟩:ByteArray).size=1:=rfl;have c1:(⟨#[33]⟩:ByteArray).size=1:=rfl;have c2:(⟨#[38,40]⟩:ByteArray).size=2:=rfl;have a9:(⟨#[124,40]⟩:ByteArray).size=2:=rfl;have c3: ¬60<dp:=by omega
 have M:=fun(r:List UInt8) (_:r.length≤20000)=>B46 e r;rw[G7]at h;repeat' (first|with_reducible apply D0a|simp only[go_sem,seval,y,c3])
 refine A3M br ⟨#[63]⟩ r false Bs y fun H1 C=>?_;rw[a4,c0]at C;rw[a4];cases p1:pre [63] r with
 |true=>
  rw[p1]at h C;simp only[if_true]at h C;repeat' simp only[go_sem,seval]
  refine B3l br (r.drop 1) false (by rw[D08];omega) (hx 1) H1 C.here fun H2 m=>?_;have b0:=C.trans m;have f4:=b0.keep e4 d.symm;rw[hZ]at f4;repeat' simp only[go_sem,seval,f4]
  exact E5 (A4e 3 0 0 false _) (D12 (A1m b0 g u d _) (h _ (RdS.set _ _ _ _)))
 |false=>
  rw[p1]at h C;simp only[D0q,if_false]at h C;have hs:=C.same y;subst hs;clear C;repeat' simp only[go_sem,seval]
  refine A3M br ⟨#[33]⟩ r false _ y fun H2 m=>?_;rw[a5,c1]at m;rw[a5];cases p2:pre [33] r with
  |true=>
   rw[p2]at h m;simp only[if_true]at h m;repeat' simp only[go_sem,seval,O]
   refine hF _ br (r.drop 1) (by rw[D08];omega) (A2m hx 1) H2 (tb m) m.here fun H3 p=>?_;have b1:=m.trans p;have f4:=b1.keep e4 d.symm;rw[hZ]at f4;repeat' (first|simp only[go_sem,seval,f4]|simp(disch:=first|omega|grind) only[C0]|intro i)
   rename_i x;have U:=i;clear i;refine A8u (ob:=some x) (ks:=[(G7 e (r.drop 1)).1]) rfl (?_:(Heap.set _ j _) x=_) (D12 (C0N b1 g u d U _ _) (h _ (RdS.set _ _ _ _)));have c4:x≠j:=fun e=>by rw[e,f4]at U;cases U
   rw[A4 _ c4];exact A2 _ _
  |false=>
   rw[p2]at h m;simp only[D0q,if_false]at h m;have hs:=m.same y;subst hs;clear m;repeat' simp only[go_sem,seval]
   refine A3M br ⟨#[38,40]⟩ r false _ y fun H3 p=>?_;rw[a6,c2]at p;rw[a6];cases p3:pre [38,40] r with
   |true=>
    rw[p3]at h p;simp only[if_true]at h p;repeat' simp only[go_sem,seval,O]
    refine B7n e (by omega) hF br (r.drop 2) (by rw[D08];omega) (A2m hx 2) H3 (tb p) p.here M fun H4 q=>?_;have b2:=p.trans q;have f4:=b2.keep e4 d.symm;rw[hZ]at f4;repeat' simp only[go_sem,seval,f4]
    exact E5 (B2B 5 0 0 false D7 _) (D12 (A1m b2 g u d _) (h _ (RdS.set _ _ _ _)))
   |false=>
    rw[p3]at h p;simp only[D0q,if_false]at h p;have hs:=p.same y;subst hs;clear p;repeat' simp only[go_sem,seval]
    refine A3M br ⟨#[124,40]⟩ r false _ y fun H4 q=>?_;rw[J,a9]at q;rw[J];cases p4:pre [124,40] r with
    |true=>
     rw[p4]at h q;simp only[if_true]at h q;repeat' simp only[go_sem,seval,O]
     refine B7n e (by omega) hF br (r.drop 2) (by rw[D08];omega) (A2m hx 2) H4 (tb q) q.here M fun H5 A=>?_;have b3:=q.trans A;have f4:=b3.keep e4 d.symm;rw[hZ]at f4;repeat' simp only[go_sem,seval,f4]
     exact E5 (B2B 6 0 0 false D7 _) (D12 (A1m b3 g u d _) (h _ (RdS.set _ _ _ _)))
    |false=>
     rw[p4]at h q;simp only[D0q,if_false]at h q;have hs:=q.same y;subst hs;clear q;repeat' simp only[go_sem,seval]
     have b7:=hx 0;rw[List.drop_zero]at b7;refine B3l br r false (by omega) b7 _ y fun H5 A=>?_;have f4:=A.keep e4 d.symm;rw[hZ]at f4;have c8:=A6m r;unfold A68 at h;by_cases w1:L9 r=A1D
     ·rw[if_pos w1]at h;have G:L9 r= [116,114,117,101]:=w1;repeat' simp only[go_sem,seval,f4,A9E,G]
      exact E5 (A4e 1 1 0 false D7) (D12 (A1m A g u d _) (h _ (RdS.set _ _ _ _)))
     ·rw[if_neg w1]at h;have G: ¬L9 r= [116,114,117,101]:=w1;by_cases w2:L9 r=flsB
      ·rw[if_pos w2]at h;have I:L9 r= [102,97,108,115,101]:=w2;have c5: ¬([102,97,108,115,101]:List UInt8)= [116,114,117,101]:=by decide
       repeat' simp only[go_sem,seval,f4,A9E,I,c5]
       exact E5 (A4e 1 0 0 false D7) (D12 (A1m A g u d _) (h _ (RdS.set _ _ _ _)))
      ·rw[if_neg w2]at h;have I: ¬L9 r= [102,97,108,115,101]:=w2;obtain⟨⟨L,er⟩,b8⟩: ∃x,x=M8 (L9 r):=⟨_,rfl⟩
       have pc:=fun(Q:D→Heap→Prop) (H:Heap) (hT:Tabs H)=>B9o (Q:=Q) (S (L9 r)) (by rw[P0];omega) H hT;rw[x9,←b8]at pc;rw[←b8]at h;simp only at h pc;have r5:=A.here;by_cases e0:er=0
       ·have V:decide (er≠0)=false:=by simp[e0]
        rw[V]at h;repeat' (first|simp only[go_sem,seval,f4,A9E,G,I,r5,e0]|simp(disch:=first|omega|grind) only[C0]|intro i|with_reducible refine pc _ _ (tb A) ?_)
        rename_i b6;have W:=i;clear i;have X:j≠b6:=fun e=>by rw[←e,f4]at W;cases W
        have s6:=RdS.set (H5.set b6 (.box [.sl 2 (Rw S1 L.t),.int .i64 L.k,.bool L.e])) br (Q8 r) false;have Y:=s6.keep (b:=j) (by rw[A4 _ X];exact f4) d.symm;have z:=(A.le g T).trans (A0 (o:=.box [.sl 2 (Rw S1 L.t),.int .i64 L.k,.bool L.e]) W);repeat' (first|simp only[go_sem,seval,Y]|with_reducible refine A4h L _ ?_)
        exact D12 (A1m s6 z u d _) (h _ (RdS.set _ _ _ _))
       ·have V:decide (er≠0)=true:=by simp[e0]
        rw[V]at h;repeat' (first|simp only[go_sem,seval,f4,A9E,G,I,r5,e0]|simp(disch:=first|omega|grind) only[C0]|intro i|with_reducible refine pc _ _ (tb A) ?_)
        rename_i b6;have W:=i;clear i;have X:j≠b6:=fun e=>by rw[←e,f4]at W;cases W
        have s6:=RdS.set (H5.set b6 (.box [.sl 2 (Rw S1 L.t),.int .i64 L.k,.bool L.e])) br (Q8 r) true;have Y:=s6.keep (b:=j) (by rw[A4 _ X];exact f4) d.symm;have z:=(A.le g T).trans (A0 (o:=.box [.sl 2 (Rw S1 L.t),.int .i64 L.k,.bool L.e]) W);repeat' (first|simp only[go_sem,seval,Y]|with_reducible refine A4h L _ ?_)
        exact D12 (A1m s6 z u d _) (h _ (RdS.set _ _ _ _))
theorem C4A: ∀e,e≤60→A71 e:=by
 intro e
 induction e with
 |zero=>intro _;exact C38
 |succ e d=>intro he;exact C39 e he (d (by omega))
theorem A30(n:Int):NilR (.tuple [.agg [.int .i64 0,.int .i64 0,.nilsl,.int .i64 0,.bool false,.str ⟨#[]⟩,.nilsl],.int .i64 n]) (.tuple [.agg (C1 V1),.int .i64 n]):=C3U (A4e 0 0 0 false D7)
theorem B1H{Q}(s:ByteArray)(hx:s.size≤20000→∀k,A6j ((B s).drop k))(H:Heap)(p:Tabs H)(h:Q (.tuple [.agg (C1 (A3K (B s)).1),.int .i64 (A3K (B s)).2]) H):D8 29 [.str s] H Q:=by
 refine A9 [] A5 Tryz.func29 rfl ?_;simp only[go_sem,seval,Tryz.results29];have a0:=U6 s;intro o q;obtain⟨Z,r⟩: ∃Z:List D,Z= [.int .i64 0,.int .i64 0,.nilsl,.int .i64 0,.bool false,.str ⟨#[]⟩,.nilsl]:=⟨_,rfl⟩
 rw[←r];have e2:(H.set o (.box Z)) o=some (.box Z):=A2 _ _;have i:H.Le (H.set o (.box Z)):=A0 q;generalize H.set o (.box Z)=Bs at e2 i⊢;have a4:=p.le i;unfold A3K at h;by_cases hl:(B s).length > 20000
 ·rw[if_pos hl]at h;have T:(20000:Int)<s.size:=by omega
  subst r;repeat' (first|with_reducible apply D0a|simp only[go_sem,seval,T,e2])
  exact E5 (A30 3) (D12 (by first|exact i|exact G9 i q) h)
 ·rw[if_neg hl]at h;have T: ¬(20000:Int)<s.size:=by omega
  have U:=C4A 60 (by omega);unfold A71 at U;rw[show ((61:Int)-(60:Nat))=1 by omega]at U;have hsz:=(B1A 60 (B s) (by omega))
  repeat' (first|with_reducible apply D0a|simp only[go_sem,seval,T]|intro j)
  rename_i br;have hr:=j;clear j;have Y:(Bs.set br (.box [.str s,.bool false])) br=some (.box [.str (S (B s)),.bool false]):=by rw[A2,S_B]
  have nr:o≠br:=fun e=>by rw[←e,e2]at hr;cases hr
  have m:H.Le (Bs.set br (.box [.str s,.bool false])):=i.trans (A0 hr);have C:(Bs.set br (.box [.str s,.bool false])) o=some (.box Z):=by rw[A4 _ nr];exact e2
  have V:H br=none:=i.none hr;generalize Bs.set br (.box [.str s,.bool false])=Cs at Y C m⊢;refine U _ br (B s) (by omega) (hx (by omega)) _ (p.le m) Y fun G I=>?_;obtain⟨⟨f1,r1,bad⟩,W⟩: ∃x,x=G7 60 (B s):=⟨_,rfl⟩
  rw[←W]at h hsz I⊢;simp only at h hsz I⊢;have J:=I.keep C nr;have L:=I.le m V;have g:=I.here;repeat' (first|simp only[go_sem,seval]|simp(disch:=first|omega|grind) only[C0]|intro j)
  rename_i b5;have h5:=j;clear j;have n5:br≠b5∧o≠b5:=⟨fun e=>(by rw[←e,g]at h5;cases h5),fun e=>(by rw[←e,J]at h5;cases h5)⟩
  have M:(G.set b5 (.box (C1 f1))) b5=some (.box (C1 f1)):=A2 _ _;have u:(G.set b5 (.box (C1 f1))) br=some (.box [.str (S r1),.bool bad]):=by rw[A4 _ n5.1];exact g
  have A:(G.set b5 (.box (C1 f1))) o=some (.box Z):=by rw[A4 _ n5.2];exact J
  have d:H.Le (G.set b5 (.box (C1 f1))):=L.trans (A0 h5);generalize G.set b5 (.box (C1 f1))=Ds at M u A d⊢;cases bad with
  |true=>
   simp only[true_or,if_true]at h;subst r;repeat' simp only[go_sem,seval,g,u,A]
   exact E5 (A30 30) (D12 (by first|exact d|exact G9 d q) h)
  |false=>
   by_cases y:r1= []
   ·rw[y]at h u g;simp only[D0q,ne_eq,not_true,or_self,if_false]at h;unfold okF at h;have fo:=hsz.2.fit;have vo:VOk f1:=.inl (by have:=hsz.2.wt;omega);have z:=fun(Q:D→Heap→Prop) (H:Heap) (p:Tabs H)=>A88 (Q:=Q) f1 fo vo H p;have X:S []=⟨#[]⟩:=rfl;cases hv:E8 f1 with
    |false=>
     rw[hv]at h z;simp only[D0q,false_and,if_false]at h z;subst r;repeat' (first|simp only[go_sem,seval,g,u,A,M,X]|with_reducible refine z _ _ (p.le d) ?_)
     exact E5 (A30 30) (D12 (by first|exact d|exact G9 d q) h)
    |true=>
     rw[hv]at h z;simp only[true_and,if_true]at h z;by_cases O:E4 f1=B s
     ·rw[if_pos O]at h;subst r;repeat' (first|simp only[go_sem,seval,g,u,A,M,X,O]|with_reducible refine z _ _ (p.le d) ?_)
      exact D12 (G9 d q) h
     ·rw[if_neg O]at h;subst r;repeat' (first|simp only[go_sem,seval,g,u,A,M,X,O]|with_reducible refine z _ _ (p.le d) ?_)
      exact E5 (A30 30) (D12 (by first|exact d|exact G9 d q) h)
   ·rw[if_pos (.inr y)]at h;subst r;repeat' simp only[go_sem,seval,g,u,A,y]
    exact E5 (A30 30) (D12 (by first|exact d|exact G9 d q) h)
end Go.Proofs.YtibphjonmikciaaGreatDoor
namespace Go.Fo
open Go Go.Av Go.Lexs Go.Lin
theorem B75(l:List Fm)(p:Fm→Bool):(l.any fun f=> !p f)= !l.all p:=by
 induction l with
 |nil=>rfl
 |cons x l d=>rw[D1f,D1d,d,Bool.not_and]
theorem C0O{Q:D→Heap→Prop}{H:Heap}{n:Nat}{ob:Option Nat}{o m k x:Int}{e:Bool}{s:ByteArray}{ks:List Fm}(hn:n=ks.length)(ho:OutAt H 7 (Rw C1 ks) ob)(h:Fin Q (.tuple [.agg (C1 (.mk o m ⟨[],k,e⟩ s ks)),.int .i64 x]) (K1 H ob)):
  Fin Q (.tuple [.agg [.int .i64 o,.int .i64 m,.nilsl,.int .i64 k,.bool e,.str s,H6 7 n ob],.int .i64 x]) H:=by
 rw[m0]at h;cases ob with
 |none=>
  have d:Rw C1 ks= []:=ho;refine E5 ?_ h;rw[d];exact C3U (B2A (.nil 2) (.nil 7))
 |some b=>
  have hb:H b=some (.vec 7 (Rw C1 ks)):=ho;subst hn;refine A5A (cs':=[.int .i64 o,.int .i64 m,.sl 2 [],.int .i64 k,.bool e,.str s,.sl 7 (Rw C1 ks)]) hb rfl (fz7 (.nil 2) ?_) h;show Fz b 7 (Rw C1 ks) (.vec b 7 0 ks.length) _;have:=Fz.all (b:=b) (sz:=7) (es:=Rw C1 ks);rwa [D5]at this
end Go.Fo
namespace Go.Proofs.YtibphjonmikciaaGreatDoor
open Go Go.Av Go.Lexs Go.Lin Go.Fo
attribute [local irreducible] ACalls S7
theorem C0P{Q}(f:Fm)(g:FmFit f)(i:VOk f)(H:Heap)(h:Q (.bool (!E8 f)) H):D8 113 [.agg (C1 f)] H Q:=by
 refine A9 [] A5 Tryz.func113 rfl ?_;simp only[go_sem,seval,Tryz.results113];intro e h1;have e1:(H.set e (.box (C1 f))) e=some (.box (C1 f)):=A2 _ _;have d:H.Le (H.set e (.box (C1 f))):=A0 h1;generalize H.set e (.box (C1 f))=Bs at e1 d⊢;repeat' (first|simp only[go_sem,seval,e1]|with_reducible refine R9 f g i _ ?_)
 exact D12 d h
theorem B76{Q}(o:Int)(ho:o=5∨o=6)(l:List Fm)(fl: ∀f∈l,FmFit f)(hlen:l.length≤1466015503658)(vl: ∀f∈l,VOk f)(hw:l.all E8=true→J3.wtL l≤900000)(H:Heap)(h:Q (.tuple [.agg (C1 (A2I o l).1),.int .i64 (A2I o l).2]) H):D8 67 [.int .i64 o,.sl 7 (Rw C1 l)] H Q:=by
 refine A9 [(9,.par)] A5 Tryz.func67 rfl ?_;simp only[go_sem,seval,Tryz.results67];intro y g4;obtain⟨Z,U⟩: ∃Z:List D,Z= [.int .i64 0,.int .i64 0,.nilsl,.int .i64 0,.bool false,.str ⟨#[]⟩,.nilsl]:=⟨_,rfl⟩
 rw[←U];have M:(H.set y (.box Z)) y=some (.box Z):=A2 _ _;have z:H.Le (H.set y (.box Z)):=A0 g4;generalize H.set y (.box Z)=Bs at M z⊢;have V: ∀x,H.Le (Bs.set y x):=fun x=>G9 z g4;have T:=fun(Q:D→Heap→Prop) (H:Heap)=>A8y (Q:=Q) (fun f=> !E8 f) l (by omega) 113 [] [] H (fun k hk _ Q hq=>C0P l[k] (fl _ (D0o hk)) (vl _ (D0o hk)) H hq);rw[B75]at T;unfold A2I at h;cases hv:l.all E8 with
 |false=>
  rw[hv]at h T;simp only[D0q,if_false]at h;rw[U]at M;repeat' (first|simp only[go_sem,seval,M]|with_reducible refine T _ _ ?_)
  exact E5 (A6h 2) (D12 (V _) h)
 |true=>
  rw[hv]at h T;simp only[if_true]at h;have hw:=hw hv;have nc:=fun(Q:D→Heap→Prop) (H:Heap)=>A81 (Q:=Q) l fl hlen H;have W:=fun(Q:D→Heap→Prop) (H:Heap)=>B2S (Q:=Q) (J7 (D3.intsL l)) (J7 (C5.boolsL l)) H;rw[A1f (l':=D3.intsL l) (m':=C5.boolsL l) (fun x=>G6 _ _) (fun x=>G6 _ _)]at W;cases hm:meetL (D3.intsL l) (C5.boolsL l)with
  |true=>
   rw[hm]at h W;simp only[if_true]at h;rw[U]at M;repeat' (first|simp only[go_sem,seval,M]|with_reducible refine T _ _ ?_|with_reducible refine nc _ _ ?_|with_reducible refine W _ _ ?_)
   exact E5 (A6h 15) (D12 (V _) h)
  |false=>
   rw[hm]at h W;simp only[D0q,if_false]at h;repeat' (first|simp only[go_sem,seval]|(intro g;try simp only[A6]at g)|with_reducible refine T _ _ ?_|with_reducible refine nc _ _ ?_|with_reducible refine W _ _ ?_)
   rename_i r;have h6:=g;clear g;have X:y≠r:=fun e=>by rw[←e,M]at h6;cases h6
   have c6:(Bs.set r (.box [.int .i64 o,.int .i64 0,.nilsl,.int .i64 0,.bool false,.str ⟨#[]⟩,.nilsl])) r=some (.box [.int .i64 o,.int .i64 0,.nilsl,.int .i64 0,.bool false,.str ⟨#[]⟩,.nilsl]):=A2 _ _;have c4:(Bs.set r (.box [.int .i64 o,.int .i64 0,.nilsl,.int .i64 0,.bool false,.str ⟨#[]⟩,.nilsl])) y=some (.box Z):=by rw[A4 _ X];exact M
   have u:H.Le (Bs.set r (.box [.int .i64 o,.int .i64 0,.nilsl,.int .i64 0,.bool false,.str ⟨#[]⟩,.nilsl])):=z.trans (A0 h6);have Y:H r=none:=z.none h6;generalize Bs.set r (.box [.int .i64 o,.int .i64 0,.nilsl,.int .i64 0,.bool false,.str ⟨#[]⟩,.nilsl])=Cs at c6 c4 u⊢;refine C4 [4,6,20,21] (fun(p:Nat×Option Nat×Heap)=>[(22,.int .i64 p.1)]) (fun(p:Nat×Option Nat×Heap)=>p.2.2) (fun(p:Nat×Option Nat×Heap)=>p.1≤l.length∧AH 7 Cs r (fun x=>[.int .i64 o,.int .i64 0,.nilsl,.int .i64 0,.bool false,.str ⟨#[]⟩,x]) (Rw C1 (l.take p.1)) p.1 p.2.1 p.2.2) (fun(p:Nat×Option Nat×Heap)=>l.length-p.1) ((0,none,Cs)) (⟨D0v _,A2O c6⟩) (by(try simp only[go_sem,seval])<;>(try simp(disch:=omega) [A3])) (by first|exact D11 _|exact A0 (by assumption)|exact B2 (by assumption)|simp only[Heap.Le,Heap.set,Heap.del]at* <;>grind) ?_;rintro Ec rfl ⟨i,ob,Hp⟩ ⟨hi,A⟩;simp only at hi A;by_cases C:i<l.length
   ·have G:decide ((i:Int)<l.length)=true:=D0c (by omega);have b0:(i:Int)<l.length:=by omega
    have b1:=D0o C;repeat' (first|with_reducible apply D0a|simp only[go_sem,seval,G,b0,A8 _ _ C,B4 _ _ C]|(intro g;try simp only[A6]at g)|omega)
    rename_i L;have h8:=g;clear g;obtain⟨d1,d7,dO,dN⟩:=A.at7 h8 (.box (C1 l[i]));refine F2 (fun i'=>.agg (C1 l[i])) [r,L] ?_;have m1:r∈[r,L]:=by simp
    have m7:L∈[r,L]:=by simp
    repeat' (first|simp only[go_sem,seval,d1,d7,m1,m7]|(intro g;try simp only[A6]at g)|with_reducible refine R2 (fun H' Q hro hq=>B3d l[i] (fl _ b1) H' hq) ?_)
    rename_i x;have hx:=g;clear g;obtain⟨a0,b2⟩:=hx;have I:(Hp.set L (.box (C1 l[i]))) x=none:=by rw[A4 _ a0];exact b2
    obtain⟨O,a4⟩:=A5a dO I (.vec 7 [C1 l[i]]);have b3:x∉[r,L]:=by
     simp only[D02,D03,or_false,not_or];exact⟨fun e=>(by rw[e,d1]at I;cases I),a0⟩
    have b7: ∀c,ob=some c→c∉[r,L]:=fun c e=>by
     simp only[D02,D03,or_false,not_or];exact⟨(A.fresh c e).2,dN c e⟩
    refine A6R 28 96 (n:=i) (m:=1) (bx:=x) (ob:=ob) (es:=Rw C1 (l.take i)) (xs:=[C1 l[i]]) (by simp only[go_sem,seval]) (by decide) (by simp only[go_sem,seval]) (by simp only[go_sem,seval]) (by simp only[go_sem,seval]) (by simp only[go_sem,seval]) (A2 _ _) rfl (by simp) O (N2 _ _ (by omega)).symm b3 a4 b7 (by simp only[D0f,D0h];omega) (by simp only[D0f,D0h];omega) fun b' a5=>?_;rw[E3 I]at a5⊢;obtain⟨c1,b9,A'⟩:=A.step h8 _ a5 (C1 l[i]);revert A';generalize c0:((K1 (Hp.set L (.box (C1 l[i]))) ob).set b' (.vec 7 (Rw C1 (l.take i)++[C1 l[i]]))).set r (.box [.int .i64 o,.int .i64 0,.nilsl,.int .i64 0,.bool false,.str ⟨#[]⟩,.vec b' 7 0 (i+1)])=Hf;intro A';repeat' (first|simp only[go_sem,seval,b9,m1]|simp(disch:=omega) only[A3,A8,C3])
    exact C2 (i+1,some b',Hf) ⟨by simp only[];omega,by simp only[];rw[R6 l i C];exact A'⟩ (by simp only[];omega) (by(try simp only[go_sem,seval])<;>(try simp(disch:=omega) [A3])) (by rw[←c0];exact D11 _)
   ·have G:decide ((i:Int)<l.length)=false:=D0d (by omega);have a6:i=l.length:=by omega
    have J:=A.keep y _ X c4;rw[D0p (by omega)]at A;have A1:=A.box;have o1:=A6S 7 i ob;have fo:FmFit (.mk o 0 nilL D7 l):=T8 (by rcases ho with rfl|rfl<;>simp[Y4]) hlen fl;have vo:VOk (.mk o 0 nilL D7 l):=.inl (by rw[K6];simp only[Fm.l,Fm.ks,nilL,D0h];omega);have vv: ∀Q:D→Heap→Prop,Q (.bool (E8 (.mk o 0 nilL D7 l))) Hp→D8 18 [.agg [.int .i64 o,.int .i64 0,.nilsl,.int .i64 0,.bool false,.str ⟨#[]⟩,H6 7 i ob]] Hp Q:=fun Q hq=>
     A32 (args':=[.agg (C1 (.mk o 0 nilL D7 l))]) rfl (fun j d d' h1 h2=>by
      match j with
      |0=>cases h1;cases h2;exact B9e a6 A.out
      |j+1=>cases h1) (R9 _ fo vo _ ⟨rfl,hq⟩)
    cases a9:E8 (.mk o 0 nilL D7 l)with
    |false=>
     rw[a9]at h vv;simp only[D0q,if_false]at h;rw[U]at J;repeat' (first|simp only[go_sem,seval,G,A1,J,o1]|with_reducible refine vv _ ?_)
     exact E5 (A6h 3) (D12 (fun k q hk=>by
      have k4:k≠y:=fun e=>by rw[e,g4]at hk;cases hk
      rw[A4 _ k4];have k6:k≠r:=fun e=>by rw[e,Y]at hk;cases hk
      exact A.keep k q k6 (u _ _ hk)) h)
    |true=>
     rw[a9]at h vv;simp only[if_true]at h;rw[U]at J;repeat' (first|with_reducible apply D0a|simp only[go_sem,seval,G,A1,J,o1]|with_reducible refine vv _ ?_)
     exact C0O a6 (A.out2 c4 _) (D12 (A.le2 u Y g4 _) h)
theorem C7G{Q}(l:List Fm)(d: ∀f∈l,FmFit f)(hlen:l.length≤1466015503658)(e: ∀f∈l,VOk f)(hw:l.all E8=true→J3.wtL l≤900000)(H:Heap)(h:Q (.tuple [.agg (C1 (A2I 5 l).1),.int .i64 (A2I 5 l).2]) H):D8 24 [.sl 7 (Rw C1 l)] H Q:=by
 refine A9 [] A5 Tryz.func24 rfl ?_;simp only[go_sem,seval,Tryz.results24];repeat' (first|simp only[go_sem,seval]|intro g|with_reducible refine B76 5 (.inl rfl) l d hlen e hw _ ?_)
 exact D12 (A0 (by assumption)) h
theorem C9S{Q}(l:List Fm)(d: ∀f∈l,FmFit f)(hlen:l.length≤1466015503658)(e: ∀f∈l,VOk f)(hw:l.all E8=true→J3.wtL l≤900000)(H:Heap)(h:Q (.tuple [.agg (C1 (A2I 6 l).1),.int .i64 (A2I 6 l).2]) H):D8 26 [.sl 7 (Rw C1 l)] H Q:=by
 refine A9 [] A5 Tryz.func26 rfl ?_;simp only[go_sem,seval,Tryz.results26];repeat' (first|simp only[go_sem,seval]|intro g|with_reducible refine B76 6 (.inr rfl) l d hlen e hw _ ?_)
 exact D12 (A0 (by assumption)) h
end Go.Proofs.YtibphjonmikciaaGreatDoor
namespace Go.Fo
open Go Go.Av Go.Lexs Go.Lin
abbrev fxT:ByteArray:=⟨#[38,40,120,45,49,62,61,48,44,32,124,40,120,45,51,61,48,44,32,33,63,98,41,41]⟩
abbrev C7H:ByteArray:=⟨#[124,40,45,120,62,61,48,44,32,38,40,124,40,120,45,52,62,61,48,44,32,45,120,43,50,62,61,48,41,44,32,63,98,41,41]⟩
abbrev C0Q:ByteArray:=⟨#[120,62,61,48]⟩
def fxO:Fm:=.mk 6 0 nilL D7 []
theorem B78:S (E4 fxF)=fxT∧S (E4 fxN)=C7H:=by rw[A84,B7h];exact⟨rfl,rfl⟩
theorem A75:A3K (B fxT)=(fxF,0)∧A3K (B C0Q)=(fxP,0):=by
 have e1:B fxT=E4 fxF:=by rw[A84];rfl
 have e2:B C0Q=E4 fxP:=by rw[B07];rfl
 rw[e1,e2];exact⟨A6c R0.1 (by rw[A84];decide),A6c R0.2.1 (by rw[B07];decide)⟩
theorem B2X:E8 fxP=true∧FmFit fxP∧VOk fxP:=⟨R0.2.1,(Y2 _ A2J.2.1).2,.inl (by have:=B1F.2.1;omega)⟩
theorem A4l:E8 fxN=true∧FmFit fxN∧VOk fxN:=⟨R0.2.2.1,(Y2 _ A2J.2.2.1).2,.inl (by have:=B1F.2.2.1;omega)⟩
theorem B2Y:E8 fxA=true∧FmFit fxA∧VOk fxA:=⟨R0.2.2.2,(Y2 _ A2J.2.2.2.1).2,.inl (by have:=B1F.2.2.2;omega)⟩
theorem A6r:A03 fxVals:=⟨by decide,by decide+kernel,fun x hx=>by
 have key: ∀x∈fxVals,x.n.natAbs≤10:=by decide+kernel
 have:=key x hx;unfold Y4;omega⟩
theorem C7I:C1 fxO= [.int .i64 6,.int .i64 0,.sl 2 [],.int .i64 0,.bool false,.str D7,.sl 7 []]:=rfl
theorem B1I{s:ByteArray}(h:s.size≤1000)(d: ∀c∈B s,c.toNat<128):s.size≤20000→∀k,Go.Proofs.YtibphjonmikciaaGreatDoor.A6j ((B s).drop k):=fun _ k=>Go.Proofs.YtibphjonmikciaaGreatDoor.B2U (by rw[D08,U6];omega) fun c hc=>d c (List.mem_of_mem_drop hc)
end Go.Fo
namespace Go.Proofs.YtibphjonmikciaaGreatDoor
open Go Go.Av Go.Lexs Go.Lin Go.Fo
attribute [local irreducible] ACalls S7
theorem C7J{Q}(H:Heap)(d:Tabs H)(h:Q (.tuple [.str fxT,.int .i64 0]) H):D8 27 [.agg (C1 fxF)] H Q:=
 A88 fxF K7.2.1 K7.2.2.1 H d (by rw[if_pos K7.1,if_pos K7.1,B78.1];exact h)
theorem C4B{Q}(H:Heap)(d:Tabs H)(h:Q (.tuple [.str C7H,.int .i64 0]) H):D8 27 [.agg (C1 fxN)] H Q:=
 A88 fxN A4l.2.1 A4l.2.2 H d (by rw[if_pos A4l.1,if_pos A4l.1,B78.2];exact h)
theorem C4C{Q}(H:Heap)(d:Tabs H)(h:Q (.tuple [.agg (C1 fxF),.int .i64 0]) H):D8 29 [.str fxT] H Q:=
 B1H fxT (B1I (by decide) (by decide)) H d (by rw[A75.1];exact h)
theorem C0R{Q}(H:Heap)(d:Tabs H)(h:Q (.tuple [.agg (C1 fxP),.int .i64 0]) H):D8 29 [.str C0Q] H Q:=
 B1H C0Q (B1I (by decide) (by decide)) H d (by rw[A75.2];exact h)
theorem C9T{Q}(H:Heap)(h:Q (.tuple [.bool true,.int .i64 0]) H):D8 37 [.agg (C1 fxF),.agg (C1 fxP)] H Q:=
 C0A fxF fxP K7.2.1 B2X.2.1 K7.2.2.1 B2X.2.2 K7.1 B2X.1 A9A.1 A9A.2.1 false A4j.2.2.1 (Y2 _ A2J.2.2.2.2.2.2.2.1).1 H h
theorem C9U{Q}(H:Heap)(h:Q (.tuple [.agg (C1 fxN),.int .i64 0]) H):D8 16 [.agg (C1 fxF)] H Q:=
 C62 fxF K7.2.1 K7.2.2.1 H (by rw[C3w];exact h)
theorem C9V{Q}(H:Heap)(h:Q (.tuple [.bool true,.int .i64 0]) H):D8 31 [.agg (C1 fxF)] H Q:=
 B7r fxF K7.2.1 K7.2.2.1 K7.1 true A4j.1 H h
theorem C7K{Q}(H:Heap)(h:Q (.tuple [.bool false,.int .i64 0]) H):D8 31 [.agg (C1 fxA)] H Q:=
 B7r fxA B2Y.2.1 B2Y.2.2 B2Y.1 false A4j.2.1 H h
theorem C9W{Q}(H:Heap)(h:Q (.tuple [.agg (C1 fxA),.int .i64 0]) H):D8 24 [.sl 7 (Rw C1 [fxF,fxN])] H Q:=
 C7G [fxF,fxN] (fun f d=>by simp only[D02,D03,or_false]at d;rcases d with rfl|rfl;exact K7.2.1;exact A4l.2.1) (by decide)
  (fun f d=>by simp only[D02,D03,or_false]at d;rcases d with rfl|rfl;exact K7.2.2.1;exact A4l.2.2) (fun _=>by have:=B1F;simp only[J3.wtL];omega) H (by rw[C3x];exact h)
theorem xOr{Q}(H:Heap)(h:Q (.tuple [.agg (C1 fxO),.int .i64 0]) H):D8 26 [.sl 7 []] H Q:=
 C9S [] (fun f d=>by cases d) (by decide) (fun f d=>by cases d) (fun _=>by simp only[J3.wtL];omega) H (by rw[C7C];exact h)
theorem xAt{Q}(H:Heap)(h:Q (.tuple [.bool true,.int .i64 0]) H):D8 22 [.agg (C1 fxF),.sl 2 (Rw vlC fxVals)] H Q:=
 C7E fxF K7.2.1 K7.2.2.1 fxVals A6r H (by rw[C7B];exact h)
theorem C7L{Q}(H:Heap)(h:Q (.tuple [.sl 1 (Rw F3 [nX]),.sl 1 (Rw F3 [nB]),.int .i64 0]) H):D8 14 [.agg (C1 fxF)] H Q:=
 C3t fxF K7.2.1 K7.2.2.1 H (by rw[if_pos K7.1,B3j.1,B3j.2];exact h)
theorem C7M{Q}(H:Heap)(h:Q (.tuple [.bool true,.int .i64 0]) H):D8 38 [.agg (C1 fxF),.agg (C1 fxF)] H Q:=
 C0B fxF K7.2.1 K7.2.2.1 K7.1 A9A.2.2.1 A9A.2.2.2 A4j.2.2.2.1 (Y2 _ A2J.2.2.2.2.2.2.2.2.1).1 H h
theorem C4D{Q}(H:Heap)(h:Q (.bool true) H):D8 18 [.agg (C1 fxF)] H Q:=
 R9 fxF K7.2.1 K7.2.2.1 H (by rw[K7.1];exact h)
set_option maxHeartbeats 4000000 in
theorem A6s{Q}(H:Heap)(J:Tabs H)(h:Q (.bool true) H):D8 13 [] H Q:=by
 refine A9 [(15,.par)] A5 Tryz.func13 rfl ?_;simp only[go_sem,seval,Tryz.results13];have T:=D11 H;repeat' (first|simp only[go_sem,seval]|intro e|with_reducible refine A73 _ ?_|with_reducible refine C7J _ J ?_|with_reducible refine C4C _ J ?_)
 rename_i I;have U:=e;clear e;have d:(H.set I (.box (C1 fxF))) I=some (.box (C1 fxF)):=A2 _ _;have x:=T.trans (A0 (o:=.box (C1 fxF)) U);have V:=J.le x;generalize H.set I (.box (C1 fxF))=H1 at d x V⊢;clear U;repeat' (first|simp only[go_sem,seval,d]|simp(disch:=first|omega|grind) only[C0]|intro e|with_reducible refine B7t _ ?_|with_reducible refine C0R _ V ?_)
 rename_i b7;have L:=e;clear e;have i:(H1.set b7 (.box (C1 fxP))) b7=some (.box (C1 fxP)):=A2 _ _;have d:=(A0 (o:=.box (C1 fxP)) L) _ _ d;have y:=x.trans (A0 (o:=.box (C1 fxP)) L);have a0:=J.le y;generalize H1.set b7 (.box (C1 fxP))=H2 at d i y a0⊢;clear L;repeat' (first|simp only[go_sem,seval,d,i]|intro e|with_reducible refine C9T _ ?_|with_reducible refine C9U _ ?_)
 rename_i M;have u:=e;clear e;have g:(H2.set M (.box (C1 fxN))) M=some (.box (C1 fxN)):=A2 _ _;have d:=(A0 (o:=.box (C1 fxN)) u) _ _ d;have i:=(A0 (o:=.box (C1 fxN)) u) _ _ i;have z:=y.trans (A0 (o:=.box (C1 fxN)) u);have W:=J.le z;generalize H2.set M (.box (C1 fxN))=H3 at d i g z W⊢;clear u;repeat' (first|simp only[go_sem,seval,d,i,g]|intro e|with_reducible refine C4B _ W ?_|with_reducible refine C9V _ ?_)
 rename_i bx;have a4:=e;clear e;refine S0 (es:=Rw C1 [fxF,fxN]) a4 rfl ?_;repeat' (first|simp only[go_sem,seval,d,i,g]|intro e|with_reducible refine C9W _ ?_)
 rename_i O;have p:=e;clear e;have j:(H3.set O (.box (C1 fxA))) O=some (.box (C1 fxA)):=A2 _ _;have d:=(A0 (o:=.box (C1 fxA)) p) _ _ d;have i:=(A0 (o:=.box (C1 fxA)) p) _ _ i;have g:=(A0 (o:=.box (C1 fxA)) p) _ _ g;have A:=z.trans (A0 (o:=.box (C1 fxA)) p);have a5:=J.le A;generalize H3.set O (.box (C1 fxA))=H4 at d i g j A a5⊢;clear p;repeat' (first|simp only[go_sem,seval,d,i,g,j]|with_reducible refine C7K _ ?_|with_reducible refine xAt _ ?_|with_reducible refine C7L _ ?_|with_reducible refine C7M _ ?_)
 refine B1N 7 ?_;repeat' (first|simp only[go_sem,seval,d,i,g,j]|intro e|with_reducible refine xOr _ ?_)
 rename_i q;have m:=e;clear e;have r:(H4.set q (.box (C1 fxO))) q=some (.box (C1 fxO)):=A2 _ _;have d:=(A0 (o:=.box (C1 fxO)) m) _ _ d;have i:=(A0 (o:=.box (C1 fxO)) m) _ _ i;have g:=(A0 (o:=.box (C1 fxO)) m) _ _ g;have j:=(A0 (o:=.box (C1 fxO)) m) _ _ j;have C:=A.trans (A0 (o:=.box (C1 fxO)) m);have a6:=J.le C;generalize H4.set q (.box (C1 fxO))=H5 at d i g j r C a6⊢;clear m;have m3:I∈[I,q]:=by simp
 have X:q∈[I,q]:=by simp
 have t1:decide ((fxT:ByteArray)=fxT)=true:=D0c rfl;rw[show C1 fxO=_ from C7I]at r;refine F2 (fun Y=>if Y=12 then .agg (C1 fxF)else if Y=13 then .bool true else if Y=20 then .bool true else if Y=107 then .bool true else .undef) [I,q] ?_;repeat' (first|simp only[go_sem,seval,d,i,g,j,r,m3,X]|intro e|with_reducible refine R2 (fun H' Q hro hq=>A73 H' hq) ?_|with_reducible refine R2 (fun H' Q hro hq=>B74 fxF K7.2.1 H' hq) ?_)
 rename_i bv;have G:=e;clear e;have a9:bv∉[I,q]:=by simp only[D02,D03,or_false];rintro(rfl|rfl);rw[d]at G;cases G;rw[r]at G;cases G
 refine C9B (o:=.vec 2 (Rw vlC fxVals)) G rfl a9 (fun H' Q hro hb hq=>A0h hb rfl (C0M fxVals A6r _ hq)) ?_;repeat' (first|with_reducible apply D0a|simp only[go_sem,seval,d,i,g,j,r,m3,X]|intro e|with_reducible refine R2 (fun H' Q hro hq=>C4D H' hq) ?_|omega)
 exact D12 C h
theorem B79(f:Fm)(L:FmFit f): ∀{Q:D→Heap→Prop} (left:Int) (H:Heap) (h:Q (.int .i64 (V7 f left)) H),D8 43 [.agg (C1 f),.int .i64 left] H Q:=by
 induction L with
 |mk o n l s ks ho hn hl hs hk X M=>
 intro Q left H h;rw[B3e]at h;change Q (.int .i64 (V7.cntK ks (tcF l.t (IntKind.i64.wrap (left-IntKind.i64.wrap (IntKind.i64.wrap (1+s.size / 100)+l.t.length)))))) H at h;have O:=hl.len;rw[A3 (x:=1+(s.size:Int) / 100) (by omega) (by omega),A3 (x:=1+(s.size:Int) / 100+(l.t.length:Int)) (by omega) (by omega)]at h;have e:C1 (.mk o n l s ks)= [.int .i64 o,.int .i64 n,.sl 2 (Rw S1 l.t),.int .i64 l.k,.bool l.e,.str s,.sl 7 (Rw C1 ks)]:=N7 _;rw[e];refine A9 [] A5 Tryz.func43 rfl ?_;simp only[go_sem,seval,Tryz.results43];intro C T;have e2:(H.set C (.box [.int .i64 o,.int .i64 n,.sl 2 (Rw S1 l.t),.int .i64 l.k,.bool l.e,.str s,.sl 7 (Rw C1 ks)])) C=some (.box [.int .i64 o,.int .i64 n,.sl 2 (Rw S1 l.t),.int .i64 l.k,.bool l.e,.str s,.sl 7 (Rw C1 ks)]):=A2 _ _;have y:H.Le (H.set C (.box [.int .i64 o,.int .i64 n,.sl 2 (Rw S1 l.t),.int .i64 l.k,.bool l.e,.str s,.sl 7 (Rw C1 ks)])):=A0 T;generalize H.set C (.box [.int .i64 o,.int .i64 n,.sl 2 (Rw S1 l.t),.int .i64 l.k,.bool l.e,.str s,.sl 7 (Rw C1 ks)])=Bs at e2 y⊢;repeat' (first|with_reducible apply D0a|simp only[go_sem,seval,e2]|simp(disch:=omega) only[A3,A8,C3]|intro z|omega)
 refine C4 [2,23,24] (fun(p:Nat×Int)=>[(25,.int .i64 p.1),(1,.int .i64 p.2)]) (fun(p:Nat×Int)=>Bs) (fun(p:Nat×Int)=>p.1≤l.t.length∧tcF (l.t.drop p.1) p.2=tcF l.t (IntKind.i64.wrap (left-(1+(s.size:Int) / 100+l.t.length)))) (fun(p:Nat×Int)=>l.t.length-p.1) ((0,IntKind.i64.wrap (left-(1+(s.size:Int) / 100+l.t.length)))) (⟨D0v _,rfl⟩) (by(try simp only[go_sem,seval])<;>(try simp(disch:=omega) [A3])) (by first|exact D11 _|exact A0 (by assumption)|exact B2 (by assumption)|simp only[Heap.Le,Heap.set,Heap.del]at* <;>grind) ?_;rintro U rfl ⟨i,n⟩ ⟨V,hv⟩;simp only at V hv;by_cases r:i<l.t.length
 ·have A:decide ((i:Int)<l.t.length)=true:=D0c (by omega);have G:(i:Int)<l.t.length:=by omega
  have hsz:=hl.str _ (D0o r);repeat' (first|with_reducible apply D0a|simp only[go_sem,seval,A,G,A8 _ _ r,B4 _ _ r]|simp(disch:=omega) only[A3,A8,C3]|intro z|omega)
  rw[D05 r,tcF]at hv;exact C2 (i+1,IntKind.i64.wrap (n-(l.t[i].v.size:Int) / 100)) ⟨by simp only[];omega,hv⟩ (by simp only[];omega) (by(try simp only[go_sem,seval])<;>(try simp(disch:=omega) [A3])) (by simp only[D4,C9,D0]at* <;>grind)
 ·have A:decide ((i:Int)<l.t.length)=false:=D0d (by omega);rw[List.drop_of_length_le (by omega),tcF]at hv;rw[←hv]at h;clear hv;repeat' simp only[go_sem,seval,A,e2]
  refine C4 [37,38] (fun(p:Nat×Int)=>[(39,.int .i64 p.1),(1,.int .i64 p.2)]) (fun(p:Nat×Int)=>Bs) (fun(p:Nat×Int)=>p.1≤ks.length∧V7.cntK (ks.drop p.1) p.2=V7.cntK ks n) (fun(p:Nat×Int)=>ks.length-p.1) ((0,n)) (⟨D0v _,rfl⟩) (by(try simp only[go_sem,seval])<;>(try simp(disch:=omega) [A3])) (by first|exact D11 _|exact A0 (by assumption)|exact B2 (by assumption)|simp only[Heap.Le,Heap.set,Heap.del]at* <;>grind) ?_;rintro U rfl ⟨j,m⟩ ⟨W,hw⟩;simp only at W hw;by_cases d:j<ks.length
  ·have q:decide ((j:Int)<ks.length)=true:=D0c (by omega);have u:(j:Int)<ks.length:=by omega
   have I: ∀{Q:D→Heap→Prop} (left:Int) (H:Heap) (h:Q (.int .i64 (V7 ks[j] left)) H),D8 43 [.agg (C1 ks[j]),.int .i64 left] H Q:=M ks[j] (D0o d);rw[D05 d,V7.cntK]at hw;by_cases g:m<0
   ·rw[if_pos g]at hw;have J:=D0c g;repeat' (first|with_reducible apply D0a|simp only[go_sem,seval,q,u,g,J,A8 _ _ d,B4 _ _ d]|intro z|omega)
    rw[hw];exact D12 (y.trans (A0 (by assumption))) h
   ·rw[if_neg g]at hw;have J:=D0d g;repeat' (first|with_reducible apply D0a|simp only[go_sem,seval,q,u,g,J,A8 _ _ d,B4 _ _ d]|simp(disch:=omega) only[A3,A8,C3]|intro z|with_reducible refine I _ _ ?_|omega)
    exact C2 (j+1,V7 ks[j] m) ⟨by simp only[];omega,hw⟩ (by simp only[];omega) (by(try simp only[go_sem,seval])<;>(try simp(disch:=omega) [A3])) (by simp only[D4,C9,D0]at* <;>grind)
  ·have q:decide ((j:Int)<ks.length)=false:=D0d (by omega);rw[List.drop_of_length_le (by omega),V7.cntK]at hw;repeat' simp only[go_sem,seval,q]
   rw[hw];exact D12 y h
theorem C4E{Q}(l:List Fm)(hl:l.length≤1466015503658)(o: ∀f∈l,FmFit f)(H:Heap)(h:Q (.bool (decide (0≤B4t l 600))) H):D8 12 [.sl 7 (Rw C1 l)] H Q:=by
 refine A9 [] A5 Tryz.func12 rfl ?_;simp only[go_sem,seval,Tryz.results12];repeat' (first|with_reducible apply D0a|simp only[go_sem,seval]|simp(disch:=omega) only[A3,A8,C3]|intro g|omega)
 refine C4 [6,7] (fun(p:Nat×Int)=>[(8,.int .i64 p.1),(3,.int .i64 p.2)]) (fun(p:Nat×Int)=>H) (fun(p:Nat×Int)=>p.1≤l.length∧B4t (l.drop p.1) p.2=B4t l 600) (fun(p:Nat×Int)=>l.length-p.1) ((0,600)) (⟨D0v _,rfl⟩) (by(try simp only[go_sem,seval])<;>(try simp(disch:=omega) [A3])) (by first|exact D11 _|exact A0 (by assumption)|exact B2 (by assumption)|simp only[Heap.Le,Heap.set,Heap.del]at* <;>grind) ?_;rintro r rfl ⟨i,n⟩ ⟨q,hv⟩;simp only at q hv;by_cases d:i<l.length
 ·have e:decide ((i:Int)<l.length)=true:=D0c (by omega);have j:(i:Int)<l.length:=by omega
  have m: ∀{Q:D→Heap→Prop} (left:Int) (H:Heap) (h:Q (.int .i64 (V7 l[i] left)) H),D8 43 [.agg (C1 l[i]),.int .i64 left] H Q:=B79 l[i] (o _ (D0o d));rw[D05 d,B4t]at hv;repeat' (first|with_reducible apply D0a|simp only[go_sem,seval,e,j,A8 _ _ d,B4 _ _ d]|simp(disch:=omega) only[A3,A8,C3]|intro g|with_reducible refine m _ _ ?_|omega)
  exact C2 (i+1,V7 l[i] n) ⟨by simp only[];omega,hv⟩ (by simp only[];omega) (by(try simp only[go_sem,seval])<;>(try simp(disch:=omega) [A3])) (by simp only[D4,C9,D0]at* <;>grind)
 ·have e:decide ((i:Int)<l.length)=false:=D0d (by omega);rw[List.drop_of_length_le (by omega),B4t]at hv;rw[←hv]at h;repeat' simp only[go_sem,seval,e]
  first
   |exact D15 h
   |(rw[show decide (n≥0)=decide (0≤n)from rfl];exact D15 h)
theorem C0S{Q}{b n:Nat}{H0:Heap}(d:H0 b=none)(f:Fm)(e:FmFit f)(hn:n=1)(h:Q (.bool (decide (0≤V7 f 600))) H0):D8 12 [.vec b 7 0 n] (H0.set b (.vec 7 [C1 f])) Q:=
 S0 (es:=Rw C1 [f]) d hn (C4E [f] (by simp) (fun x hx=>by rw[D01]at hx;rw[hx];exact e) H0 h)
end Go.Proofs.YtibphjonmikciaaGreatDoor
namespace Go.Av
theorem C0T{P:Program}{H j:Heap}{o:D→Heap→Prop}{sz g n:Nat}{ob:Option Nat}{es:List (List D)}{xs:List (List D)}(d:OutIn H sz es ob j)(hn:n=es.length)(h1:(n+xs.length)*g≤140737488355328)(p:n+xs.length≤9223372036854775807)
  (h: ∀ob' Hc',OutIn H sz (es++xs) ob' Hc'→o (H6 sz (n+xs.length) ob') Hc'):apS (H6 sz n ob) sz g xs j o:=by
 by_cases i:xs= []
 ·subst i;cases ob with
  |none=>
   have e:es= []:=d.2.1;subst e;subst hn;exact⟨by simp,by simp,fun _=>h none j ⟨d.1,rfl,fun _ e=>by cases e⟩,fun e=>absurd rfl e⟩
  |some c=>
   have e:j c=some (.vec sz es):=d.2.1;subst hn;refine⟨rfl,.inl ⟨rfl,?_⟩⟩;rw[e];refine⟨rfl,D0u _,h1,p,fun b hb=>?_⟩;rw[D0p (D0u _)];exact h (some b) _ ⟨d.le.trans (A0 hb),A2 _ _,fun x hx=>by cases hx;exact d.new hb⟩
 ·exact C6n (P:=P) d i hn h1 p fun q hb m=>h (some q) _ ⟨d.le.trans (A0 m),A2 _ _,fun x hx=>by cases hx;exact hb⟩
end Go.Av
namespace Go.Proofs.YtibphjonmikciaaGreatDoor
open Go Go.Av Go.Lexs Go.Lin Go.Fo
attribute [local irreducible] ACalls S7
theorem B47{Q}(f:Fm)(j:FmFit f)(hw:J3 f≤1000000)(H:Heap)(h: ∀ob' H',OutIn H 1 (Rw F3 (ivF f)) ob' H'→Q (.tuple [H6 1 (ivF f).length ob',.sl 1 (Rw F3 (V6 f))]) H'):D8 48 [.agg (C1 f),.nilsl,.nilsl] H Q:=
 ACalls.fin (B43 _ f (D0u _) j [] [] (by simp;omega) none H H ⟨D11 _,rfl,fun _ e=>by cases e⟩ fun ob' H' m=>E5 (d':=.tuple [H6 1 (ivF f).length ob',.sl 1 (Rw F3 (V6 f))]) (.tuple _ _ rfl fun i d d' h1 g=>(match i,h1,g with
  |0,h1,g=>by cases h1;cases g;exact .same _
  |1,h1,g=>by cases h1;cases g;exact A5Y _
  |i+2,h1,g=>by cases h1)) (D15 (h ob' H' m)))
set_option maxHeartbeats 4000000 in
theorem C7N{Q}(f:Fm)(fa:FmFit f)(vo:VOk f)(vs:List VlV)(O:A03 vs)(H:Heap)(h:Q (.tuple [.bool (atF f vs).1,.int .i64 (atF f vs).2]) H):D8 23 [.agg (C1 f),.sl 2 (Rw vlC vs)] H Q:=by
 refine A9 [(11,.wk)] A5 Tryz.func23 rfl ?_;simp only[go_sem,seval,Tryz.results23];have a5:=O.len;intro M g2;have e2:(H.set M (.box (C1 f))) M=some (.box (C1 f)):=A2 _ _;have p:H.Le (H.set M (.box (C1 f))):=A0 g2;generalize H.set M (.box (C1 f))=Bs at e2 p⊢;have T:=fun(Q:D→Heap→Prop) (H:Heap)=>B7y (Q:=Q) f fa vo H;have Y:=fun(Q:D→Heap→Prop) (H:Heap)=>A4Z (Q:=Q) vs O H;unfold atF at h;cases hv:E8 f with
 |false=>
  rw[hv]at T h;simp only[D0q,false_and,if_false]at h;repeat' (first|simp only[go_sem,seval,e2]|with_reducible refine T _ _ ?_)
  exact D12 p h
 |true=>
 rw[hv]at T h;cases hw:I6 vs with
 |false=>
  rw[hw]at Y h;simp only[D0q,and_false,if_false]at h;repeat' (first|simp only[go_sem,seval,e2]|with_reducible refine T _ _ ?_|with_reducible refine Y _ _ ?_)
  exact D12 p h
 |true=>
 rw[hw]at Y h;simp only[and_self,if_true]at h;have a6:=A6f hv;have o:=N0 hv;have a4:(ivF f).length+(V6 f).length≤12:=by rw[y4]at hv;simp only[D0n,D0w]at hv;exact hv.2
 repeat' (first|simp only[go_sem,seval,e2]|with_reducible refine T _ _ ?_|with_reducible refine Y _ _ ?_)
 refine B47 f fa (by omega) Bs fun ob Hp qo=>?_;repeat' simp only[go_sem,seval]
 refine C0T (P:=Tryz.prog) qo (D5 _).symm (by rw[D5];omega) (by rw[D5];omega) fun oc Hq G=>?_;have hL:Rw F3 (ivF f)++Rw F3 (V6 f)=Rw F3 (ivF f++V6 f):=O4 _ _;rw[hL]at G;have r: ∀s,s∈ivF f++V6 f↔s∈D3 f∨s∈C5 f:=fun s=>by rw[D00];unfold ivF V6;rw[Q3,Q3]
 have hlen:(ivF f).length+(V6 f).length=(ivF f++V6 f).length:=by rw[D0g]
 rw[D5,hlen];generalize a9:ivF f++V6 f=L at G r hlen⊢;have b0:=G.1 _ _ e2;have I:A3L f vs=true↔∀s∈L,(J4 vs s).isSome=true:=by
  rw[A1H];exact⟨fun g s hs=>g s ((r s).1 hs),fun g s hs=>g s ((r s).2 hs)⟩
 apply P8 (C:=A3L f vs=true)
 ·intro hJ;cases oc with
  |none=>
   have e0:Rw F3 L= []:=G.2.1;have:L= []:=by cases L with|nil=>rfl|cons x l=>cases e0
   subst this;repeat' simp only[go_sem,seval]
   refine C4 [1,2,7,31,32] (fun(i:Nat)=>[(33,.int .i64 i)]) (fun(i:Nat)=>Hq) (fun(i:Nat)=>i=0) (fun(i:Nat)=>0-i) (0) (rfl) (by(try simp only[go_sem,seval])<;>(try simp(disch:=omega) [A3])) (by first|exact D11 _|exact A0 (by assumption)|exact B2 (by assumption)|simp only[Heap.Le,Heap.set,Heap.del]at* <;>grind) ?_;rintro Ec rfl i rfl;have e:decide (((0:Nat):Int)<0)=false:=rfl;repeat' simp only[go_sem,seval,e]
   exact O2 [(1,.sl 2 (Rw vlC vs)),(2,.box M 0),(7,.sl 1 (Rw F3 (V6 f)))] Bs (by simp only[go_sem,seval]) G.1 (hJ (I.2 fun s hs=>by cases hs))
  |some c=>
   have ec:Hq c=some (.vec 1 (Rw F3 L)):=G.2.1;repeat' simp only[go_sem,seval,ec]
   refine C4 [1,2,7,31,32] (fun(i:Nat)=>[(33,.int .i64 i)]) (fun(i:Nat)=>Hq) (fun(i:Nat)=>i≤L.length∧∀(j:Nat) (y:j<L.length),j<i→(J4 vs L[j]).isSome=true) (fun(i:Nat)=>L.length-i) (0) (⟨D0v _,fun _ _ h=>by omega⟩) (by(try simp only[go_sem,seval])<;>(try simp(disch:=omega) [A3])) (by first|exact D11 _|exact A0 (by assumption)|exact B2 (by assumption)|simp only[Heap.Le,Heap.set,Heap.del]at* <;>grind) ?_;rintro Ec rfl i ⟨hi,o⟩;by_cases d:i<L.length
   ·have e:decide ((i:Int)<L.length)=true:=D0c (by omega);have q:(i:Int)<L.length:=by omega
    have A:=fun(Q:D→Heap→Prop) (H:Heap)=>A2D (Q:=Q) vs O L[i] H;cases hg:(J4 vs L[i]).isSome with
    |true=>
     rw[hg]at A;repeat' (first|with_reducible apply D0a|simp only[go_sem,seval,e,q,ec,A8 _ _ d,B4 _ _ d]|simp(disch:=omega) only[A3,A8,C3]|with_reducible refine A _ _ ?_|omega)
     exact C2 (i+1) ⟨by omega,fun j y a0=>(Nat.lt_or_ge j i).elim (fun g=>o j y g) fun g=>by have:j=i:=(by omega);subst this;exact hg⟩ (by omega) (by(try simp only[go_sem,seval])<;>(try simp(disch:=omega) [A3])) (D11 _)
    |false=>
     rw[hg]at A;rw[if_neg (fun g=>by have:=I.1 g _ (D0o d);rw[hg]at this;cases this)]at h;repeat' (first|with_reducible apply D0a|simp only[go_sem,seval,e,q,ec,A8 _ _ d,B4 _ _ d]|with_reducible refine A _ _ ?_|omega)
     exact D12 (p.trans G.1) h
   ·have e:decide ((i:Int)<L.length)=false:=D0d (by omega);repeat' simp only[go_sem,seval,e]
    exact O2 [(1,.sl 2 (Rw vlC vs)),(2,.box M 0),(7,.sl 1 (Rw F3 (V6 f)))] Bs (by simp only[go_sem,seval]) G.1 (hJ (I.2 fun s hs=>by
     obtain⟨j,y,rfl⟩:=List.getElem_of_mem hs;exact o j y (by omega)))
 intro U;rw[if_pos U]at h;have kn:A9B f vs:=(A1H f vs).1 U;repeat' simp only[go_sem,seval]
 refine C4 [1,2,46,47] (fun(i:Nat)=>[(48,.int .i64 i)]) (fun(i:Nat)=>Bs) (fun(i:Nat)=>i≤(V6 f).length∧∀(j:Nat) (y:j<(V6 f).length),j<i→(J4 vs (V6 f)[j]).getD 0=0∨(J4 vs (V6 f)[j]).getD 0=1) (fun(i:Nat)=>(V6 f).length-i) (0) (⟨D0v _,fun _ _ h=>by omega⟩) (by(try simp only[go_sem,seval])<;>(try simp(disch:=omega) [A3])) (by first|exact D11 _|exact A0 (by assumption)|exact B2 (by assumption)|simp only[Heap.Le,Heap.set,Heap.del]at* <;>grind) ?_;rintro Ec rfl i ⟨hi,u⟩;by_cases d:i<(V6 f).length
 ·have e:decide ((i:Int)<(V6 f).length)=true:=D0c (by omega);have q:(i:Int)<(V6 f).length:=by omega
  have A:=fun(Q:D→Heap→Prop) (H:Heap)=>A2D (Q:=Q) vs O (V6 f)[i] H;have m:((J4 vs (V6 f)[i]).getD 0=0∨(J4 vs (V6 f)[i]).getD 0=1)→∀(j:Nat) (y:j<(V6 f).length),j<i+1→(J4 vs (V6 f)[j]).getD 0=0∨(J4 vs (V6 f)[j]).getD 0=1:=fun hz j y a0=>(Nat.lt_or_ge j i).elim (fun g=>u j y g) fun g=>by have:j=i:=(by omega);subst this;exact hz
  have V: ¬((J4 vs (V6 f)[i]).getD 0=0∨(J4 vs (V6 f)[i]).getD 0=1)→Fo.bits f vs=false:=fun g=>by
   unfold Fo.bits;rw[List.all_eq_false];exact⟨_,D0o d,by simpa using g⟩
  generalize (J4 vs (V6 f)[i]).getD 0=z at A m V;by_cases W:z=0
  ·repeat' (first|with_reducible apply D0a|simp only[go_sem,seval,e,q,W,A8 _ _ d,B4 _ _ d]|simp(disch:=omega) only[A3,A8,C3]|with_reducible refine A _ _ ?_|omega)
   exact C2 (i+1) ⟨by omega,m (.inl W)⟩ (by omega) (by(try simp only[go_sem,seval])<;>(try simp(disch:=omega) [A3])) (D11 _)
  ·have d0:=D0d W;by_cases X:z=1
   ·repeat' (first|with_reducible apply D0a|simp only[go_sem,seval,e,q,X,A8 _ _ d,B4 _ _ d]|simp(disch:=omega) only[A3,A8,C3]|with_reducible refine A _ _ ?_|omega)
    exact C2 (i+1) ⟨by omega,m (.inr X)⟩ (by omega) (by(try simp only[go_sem,seval])<;>(try simp(disch:=omega) [A3])) (D11 _)
   ·have d1:=D0d X;rw[V (fun g=>g.elim W X)]at h;simp only[D0q,if_false]at h;repeat' (first|with_reducible apply D0a|simp only[go_sem,seval,e,q,W,X,d0,d1,A8 _ _ d,B4 _ _ d]|with_reducible refine A _ _ ?_|omega)
    exact D12 p h
 ·have e:decide ((i:Int)<(V6 f).length)=false:=D0d (by omega);have J:Fo.bits f vs=true:=by
   unfold Fo.bits;rw[D1B];intro s hs;obtain⟨j,y,rfl⟩:=List.getElem_of_mem hs;simpa using u j y (by omega)
  rw[if_pos J]at h;repeat' simp only[go_sem,seval,e,e2]
  refine C7F vs O hw _ f (D0u _) o fa kn _ ?_;repeat' simp only[go_sem,seval]
  exact D12 p h
set_option maxHeartbeats 4000000 in
theorem C0U{Q}(f:Fm)(vs:List VlV)(i:FmFit f)(m:A03 vs)(H:Heap)(p:Tabs H)(h:Q (.bool true) H):D8 4 [.agg (C1 f),.sl 2 (Rw vlC vs)] H Q:=by
 refine A9 [] A5 Tryz.func4 rfl ?_;simp only[go_sem,seval,Tryz.results4];intro j q;have e2:(H.set j (.box (C1 f))) j=some (.box (C1 f)):=A2 _ _;have d:H.Le (H.set j (.box (C1 f))):=A0 q;generalize H.set j (.box (C1 f))=Bs at e2 d⊢;have e:=p.le d;have r:=m.len;repeat' intro u
 refine C0S (by assumption) f i rfl ?_;by_cases hc:0≤V7 f 600
 ·have o:=(B9t i hc).1;rw[D0c hc];by_cases g:(60:Int)<vs.length
  ·repeat' (first|simp only[go_sem,seval,g]|with_reducible refine A6s _ e ?_)
   exact D12 d h
  ·repeat' (first|simp only[go_sem,seval,g,e2]|with_reducible refine C7E f i o vs m _ ?_|with_reducible refine C7N f i o vs m _ ?_|with_reducible refine A6s _ e ?_)
   all_goals exact D12 d h
 ·rw[D0d hc];repeat' (first|simp only[go_sem,seval]|with_reducible refine A6s _ e ?_)
  exact D12 d h
end Go.Proofs.YtibphjonmikciaaGreatDoor
namespace Go.Av
open Go.RowKit Go.ChangeShapes Go.WideShapes
def B1J(P:Program):Nat→List Field→Option Nat
 |o,[]=>some o
 |o,f::r=>if f.offset=o then B1J P (o+P.cellsOf f.type) r else none
def A4m(P:Program)(l:List TypeId)(t:TypeId):Bool:=match P.underlying t with
 |some .bool|some (.int _)|some .string=>decide (P.cellsOf t=1)
 |some (.slice e)=>decide (P.cellsOf t=1)&&l.contains e&&decide (0<P.cellsOf e)&&decide (0<P.bytesOf e)
 |some (.struct fs)=>decide (B1J P 0 fs.toList=some (P.cellsOf t))&&fs.toList.all (fun f=>l.contains f.type)
 |_=>false
def plainB(P:Program)(l:List TypeId):Bool:=l.all (A4m P l)
inductive l8(P:Program):TypeId→List D→Prop
 |bool {t:TypeId} (b:Bool) (h:P.underlying t=some .bool):l8 P t [.bool b]
 |int {t:TypeId} {k:IntKind} (n:Int) (h:P.underlying t=some (.int k)) (hw:(Lit.int k n).wf=true):l8 P t [.int k n]
 |str {t:TypeId} (s:ByteArray) (h:P.underlying t=some .string) (hs:s.size≤reachBytes):l8 P t [.str s]
 |sl {t e:TypeId} (es:List (List D)) (h:P.underlying t=some (.slice e)) (hl:es.length*P.bytesOf e≤reachBytes) (he: ∀x∈es,l8 P e x):l8 P t [.sl (P.cellsOf e) es]
 |struct {t:TypeId} {fs:Array Field} (ps:List (List D)) (h:P.underlying t=some (.struct fs)) (hl:ps.length=fs.size) (hp: ∀(i:Nat) (f:Field) (p:List D),fs[i]? =some f→ps[i]? =some p→l8 P f.type p):l8 P t ps.flatten
section
variable {H:Type} {enc:TypeId×Value→H} {P:Program}
def B8A(w:World)(Hp:Heap)(ds:List D)(cs:List Value):Prop:=∀(j:Nat) (d:D),ds[j]? =some d→d.one=true∧R w Hp d (cs.getD j Go.undef)
theorem A76{w:World}{Hp:Heap}{cs:List Value}: ∀(fs:List Field) (o m:Nat) (ps:List (List D)),B1J P o fs=some m→m≤cs.length→ps.length=fs.length→
  (∀(i:Nat) (f:Field) (p:List D),fs[i]? =some f→ps[i]? =some p→p.length=P.cellsOf f.type∧B8A w Hp p ((cs.drop f.offset).take (P.cellsOf f.type)))→
  o≤m∧o+ps.flatten.length=m∧∀(j:Nat) (d:D),ps.flatten[j]? =some d→d.one=true∧R w Hp d (cs.getD (o+j) Go.undef)
 | [],o,m,ps,g,_,hl,_=>by
  have:ps= []:=D0y (by simpa using hl);subst this;simp only[B1J,D1C]at g;subst g;exact⟨D0u _,by simp,fun j d h=>by simp at h⟩
 |f::r,o,m,ps,g,hm,hl,hp=>by
  cases ps with
  |nil=>simp at hl
  |cons p ps=>
   unfold B1J at g;split at g
   ·rename_i ho;obtain⟨q,u⟩:=hp 0 f p rfl rfl;obtain⟨h1,L,y⟩:=A76 r (o+P.cellsOf f.type) m ps g hm (by simpa using hl) (fun i z A C x=>hp (i+1) z A (by simpa using C) (by simpa using x));refine⟨by omega,by rw[List.flatten_cons,D0g,q];omega,fun j d h=>?_⟩;rw[List.flatten_cons,List.getElem?_append]at h;split at h
    ·rename_i G;obtain⟨I,J⟩:=u j d h;refine⟨I,?_⟩;have e:((cs.drop f.offset).take (P.cellsOf f.type)).getD j Go.undef=cs.getD (o+j) Go.undef:=by
      rw[List.getD_eq_getElem?_getD,List.getD_eq_getElem?_getD,List.getElem?_take_of_lt (by omega),List.getElem?_drop,ho]
     rw[←e];exact J
    ·rename_i G;have:=y (j-p.length) d h;have e:o+P.cellsOf f.type+(j-p.length)=o+j:=by omega
     rw[e]at this;exact this
   ·cases g
theorem A2K{e:TypeId}{n:Nat}: ∀{l:List (DataW H)},(DataW.weightsAll P e l).all (· ≤n)=true→∀d∈l,(d.weights P e).all (· ≤n)=true
 | [],_,d,g=>by cases g
 |x::l,h,d,g=>by
  rw[DataW.weightsAll,D1e,D0n]at h;rcases D02.1 g with rfl|g
  ·exact h.1
  ·exact A2K h.2 d g
theorem Y3{n:Nat}: ∀{j:List TypeId} {l:List (DataW H)},(DataW.weightsEach P j l).all (· ≤n)=true→∀(i:Nat) t d,j[i]? =some t→l[i]? =some d→(d.weights P t).all (· ≤n)=true
 | [],_,_,i,t,d,e,_=>by simp at e
 |_::_,[],_,i,t,d,_,g=>by simp at g
 |t0::j,m::l,h,i,t,d,e,g=>by
  rw[DataW.weightsEach,D1e,D0n]at h;cases i with
  |zero=>simp at e g;subst e;subst g;exact h.1
  |succ i=>exact Y3 h.2 i t d (by simpa using e) (by simpa using g)
theorem B1K{a:Addr}(hs:a.spot=none)(n:Nat):a.add n=⟨a.block,a.off+n,none⟩:=by
 obtain⟨b,o,s⟩:=a;simp only at hs;subst hs;unfold Addr.add;split
 ·rename_i h;subst h;rfl
 ·rfl
theorem A9F{l:List TypeId}(hB:plainB P l=true){w:World}{base:Nat}{sp:Nat→Bool}{hd:Bool}{Hp:Heap}(hH: ∀b,Hp.held b=false):
  ∀(n:Nat) (t:TypeId) (cs:List Value) (x:DataW H×List MemPlace),t∈l→DataW.trod enc P w base sp hd n t cs=some x→(x.1.weights P t).all (· ≤reachBytes)=true→
   cs.length=P.cellsOf t∧∃ds,l8 P t ds∧ds.length=cs.length∧B8A w Hp ds cs:=by
 intro n
 induction n with
 |zero=>intro t cs x _ h;simp[DataW.trod]at h
 |succ n ih=>
  intro t cs x ht h hw;have o:A4m P l t=true:=D1B.1 hB t ht;unfold A4m at o;have one: ∀{d:D} {v:Value},d.one=true→R w Hp d v→B8A w Hp [d] [v]:=fun h1 h2 j d' C=>by
   cases j with
   |zero=>simp at C;subst C;exact⟨h1,h2⟩
   |succ j=>simp at C
  cases z:P.underlying t with
  |none=>rw[z]at o;cases o
  |some u=>
   cases u with
   |bool=>
    rw[z]at o;obtain⟨b,rfl,rfl⟩:=DataW.trod_bool z h;exact⟨(D0b o).symm,_,.bool b z,rfl,one rfl (.bool b)⟩
   |int k=>
    rw[z]at o;obtain⟨m,rfl,rfl,b6⟩:=DataW.trod_int z h;exact⟨(D0b o).symm,_,.int m z b6,rfl,one rfl (.int k m)⟩
   |string=>
    rw[z]at o;obtain⟨s,rfl,rfl,_⟩:=DataW.trod_string z h;have hsz:s.size≤reachBytes:=by simpa [DataW.weights]using hw
    exact⟨(D0b o).symm,_,.str s z hsz,rfl,one rfl (.str s)⟩
   |slice e=>
    rw[z]at o;simp only[D0n,D0w]at o;obtain⟨⟨⟨a4,U⟩,b7⟩,c9⟩:=o;have U:e∈l:=by simpa using U
    rcases DataW.trod_slice z h with⟨rfl,rfl⟩|⟨a,len,cap,A,rest,m,hm,rfl,rfl,hb,b8,d0,hlen,V,_,_⟩
    ·exact⟨a4.symm,_,.sl [] z (by simp) (by simp),rfl,one rfl (.sl0 _ _ _)⟩
    ·cases hm;have a5:(A.length+rest.length)*P.bytesOf e≤reachBytes∧(DataW.weightsAll P e (A.map (·.1))).all (· ≤reachBytes)=true:=by
      rw[DataW.weights,z]at hw;simp only[D1d,D1e,D0n,D0w,D1J]at hw;exact⟨hw.1,hw.2.1⟩
     have W: ∀i,∃p:List D×List Value,i<len→l8 P e p.1∧p.1.length=P.cellsOf e∧B8A w Hp p.1 p.2∧∀j,j<P.cellsOf e→w.cell? ((a.add (i*P.cellsOf e)).add j)=some (p.2.getD j Go.undef):=by
      intro i;by_cases r:i<len
      ·have M:=V i r;have a6:i<A.length:=by omega
       rw[D0r a6,D0m]at M;obtain⟨ci,b9,c0⟩:=M;obtain⟨_,X,c1⟩:=World.cells?_some b9;obtain⟨k1,ds,k2,k3,k4⟩:=ih e ci A[i] U c0 (A2K a5.2 _ (D1Y.2 ⟨_,D0o a6,rfl⟩));refine⟨(ds,ci),fun _=>⟨k2,by rw[k3];exact k1,k4,fun j hj=>?_⟩⟩;rw[c1 j hj,List.getD_eq_getElem?_getD,D0r (by rw[X];exact hj)];rfl
      ·exact⟨([],[]),fun h=>absurd h r⟩
     obtain⟨g,L⟩:=Classical.skolem.1 W;have O: ∀(i:Nat) (x:List D),((List.range len).map fun i=>(g i).1)[i]? =some x→i<len∧x=(g i).1:=fun i x hx=>by
      simp only[D0x,D0j]at hx;obtain⟨y,M,rfl⟩:=hx;have r:=(D0k.1 M).1;simp at r;rw[List.getElem?_range r]at M;cases M;exact⟨r,rfl⟩
     have T:((List.range len).map fun i=>(g i).1).length=len:=by simp
     refine⟨a4.symm,_,.sl ((List.range len).map fun i=>(g i).1) z ?_ ?_,rfl,one rfl ?_⟩
     ·rw[T];refine D1g (D1G _ ?_) a5.1;omega
     ·intro x hx;obtain⟨i,r⟩:=List.mem_iff_getElem?.1 hx;obtain⟨c2,rfl⟩:=O i x r;exact(L i c2).1
     ·show R w Hp (.sl (P.cellsOf e) ((List.range len).map fun i=>(g i).1)) (.slice (some a) len cap);by_cases hz:len=0
      ·subst hz;exact .sl0 _ _ _
      ·have q:=(L 0 (by omega)).2.2.2 0 b7;rw[Nat.zero_mul]at q;have G:a.spot=none:=by
        have e0:(a.add 0).add 0=a:=rfl;rw[e0]at q;unfold World.cell? at q;split at q
        ·split at q
         ·cases q
         ·rename_i a9;cases c3:a.spot with
          |none=>rfl
          |some _=>rw[c3]at a9;exact absurd rfl a9
        ·cases q
       have b0:a.block<w.heap.size:=by
        have e0:(a.add 0).add 0=a:=rfl;rw[e0]at q;unfold World.cell? at q;by_cases c4:a.block<w.heap.size
        ·exact c4
        ·rw[Array.getElem?_eq_none (by omega)]at q;cases q
       have Y: ∀i j,i<len→j<P.cellsOf e→w.cell? ⟨a.block,a.off+i*P.cellsOf e+j,none⟩=some ((g i).2.getD j Go.undef):=fun i j r hj=>by
        have:=(L i r).2.2.2 j hj;rw[B1K G,B1K rfl]at this;exact this
       have hR:=R.sl (w:=w) (H:=Hp) (P.cellsOf e) ((List.range len).map fun i=>(g i).1) a.block a.off cap (fun i j=>(g i).2.getD j Go.undef) b0 (hH _)
        (fun i x hx=>by obtain⟨r,rfl⟩:=O i x hx;exact(L i r).2.1) (by rw[T];exact b8) (fun i j r hj=>Y i j (by rw[T]at r;exact r) hj)
        (fun i x j d hx C=>by obtain⟨r,rfl⟩:=O i x hx;exact((L i r).2.2.1 j d C).1) (fun i x j d hx C=>by obtain⟨r,rfl⟩:=O i x hx;exact((L i r).2.2.1 j d C).2)
       rw[T]at hR;obtain⟨ab,ao,d2⟩:=a;simp only at G;subst G;exact hR
   |struct fs=>
    rw[z]at o;simp only[D0n,D0w,D1B]at o;obtain⟨a0,b1⟩:=o;obtain⟨xs,m,hm,rfl,X,d3,V⟩:=DataW.trod_struct z h;cases hm;have c5:(DataW.weightsEach P (fs.toList.map (·.type)) (xs.map (·.1))).all (· ≤reachBytes)=true:=by
     rw[DataW.weights,z]at hw;exact hw
    have W: ∀i:Nat,∃p:List D,∀f:Field,fs[i]? =some f→l8 P f.type p∧p.length=P.cellsOf f.type∧B8A w Hp p ((cs.drop f.offset).take (P.cellsOf f.type)):=by
     intro i;cases I:fs[i]? with
     |none=>exact⟨[],fun f h=>by cases h⟩
     |some f=>
      have r:=(D0z.1 I).1;have b2:i<xs.length:=by omega
      have M:=V i f I;rw[D0r b2]at M;have c6:f.type∈l:=by
       have:=b1 f (by rw[D1F];exact Array.mem_of_getElem? I);simpa using this
      have c7:=Y3 c5 i f.type xs[i].1 (by simp[I]) (by simp[D0r b2]);obtain⟨k1,ds,k2,k3,k4⟩:=ih f.type _ xs[i] c6 M c7;refine⟨ds,fun f' J=>?_⟩;cases J;exact⟨k2,by rw[k3];exact k1,k4⟩
    obtain⟨g,L⟩:=Classical.skolem.1 W;have c8:((List.range fs.size).map g).length=fs.size:=by simp
    have b3: ∀(i:Nat) (f:Field) (p:List D),fs[i]? =some f→((List.range fs.size).map g)[i]? =some p→p=g i:=fun i f p I hp=>by
     have r:=(D0z.1 I).1;rw[D0x,List.getElem?_range r]at hp;cases hp;rfl
    obtain⟨_,hlen,b4⟩:=A76 (P:=P) (w:=w) (Hp:=Hp) (cs:=cs) fs.toList 0 (P.cellsOf t) ((List.range fs.size).map g) a0 (by omega) (by simp) (fun i f p I hp=>by
     have J:fs[i]? =some f:=by simpa using I
     have:=b3 i f p J hp;subst this;exact⟨(L i f J).2.1,(L i f J).2.2⟩)
    refine⟨X,_,.struct ((List.range fs.size).map g) z c8 (fun i f p I hp=>by have:=b3 i f p I hp;subst this;exact(L i f I).1),by omega,fun j d hd=>?_⟩;have:=b4 j d hd;rwa [Nat.zero_add]at this
   |_=>rw[z]at o;cases o
def A2L(P:Program)(t:TypeId)(x:D):Prop:=match P.underlying t with
 |some (.struct _)=>∃ds,x= .agg ds∧l8 P t ds
 |_=>l8 P t [x]
theorem B1L{l:List TypeId}(C:plainB P l=true){w:World}{base J:Nat}{L:Nat→Bool}{q:Bool}{Hp:Heap}(M: ∀b,Hp.held b=false){t:TypeId}{v:Value}{d:DataW H}{ps:List MemPlace}(G:t∈l)
  (g:Value.okWide P w .any J t v) (h:DataW.Trod enc P w base L q t v d ps) (hw:(d.weights P t).all (· ≤reachBytes)=true): ∃x,A2L P t x∧R w Hp x v:=by
 obtain⟨n,hn⟩:=h;obtain⟨h1,ds,I,y,r⟩:=A9F C M n t v.cells.toList (d,ps) G hn hw;have o:A4m P l t=true:=D1B.1 C t G;have j:(∀fs,P.underlying t≠some (.struct fs))→v.cells.toList= [v]→∃x,A2L P t x∧R w Hp x v:=by
  intro z hv;rw[hv]at y r
  match ds,y with
  | [x],_=>
   refine⟨x,?_,(r 0 x rfl).2⟩;unfold A2L;split
   ·rename_i fs A;exact absurd A (z fs)
   ·exact I
 cases p:P.underlying t with
 |none=>unfold A4m at o;rw[p]at o;cases o
 |some u=>
  cases u with
  |bool=>obtain⟨b,rfl⟩:=okWide_bool p g;exact j (by simp[p]) rfl
  |int k=>obtain⟨m,rfl⟩:=okWide_int p g;exact j (by simp[p]) rfl
  |string=>obtain⟨s,rfl⟩:=okWide_string p g;exact j (by simp[p]) rfl
  |slice e=>obtain⟨a,len,cap,rfl⟩:=okWide_slice p g;exact j (by simp[p]) rfl
  |struct fs=>
   simp only[Value.okWide,p]at g;obtain⟨cs,rfl,hsz,_⟩:=g;refine⟨.agg ds,?_,.agg _ _ (by rw[y];rfl) (fun i d q=>(r i d q).1) (fun i d q=>?_)⟩
   ·unfold A2L;rw[p];exact⟨ds,rfl,I⟩
   ·have:=(r i d q).2;have e:(Value.agg cs).cells.toList.getD i Go.undef=cs.getD i Go.undef:=by
     show cs.toList.getD i Go.undef=_;simp
    rwa [e]at this
  |_=>unfold A4m at o;rw[p]at o;cases o
theorem A6t{t:TypeId}{ds:List D}(d:P.underlying t=some .string)(h:l8 P t ds): ∃s,ds= [.str s]∧s.size≤reachBytes:=by
 cases h with
 |str s h hs=>exact⟨s,rfl,hs⟩
 |bool b h=>rw[d]at h;cases h
 |int n h=>rw[d]at h;cases h
 |sl es h=>rw[d]at h;cases h
 |struct ps h=>rw[d]at h;cases h
theorem B48{t:TypeId}{ds:List D}(d:P.underlying t=some .bool)(h:l8 P t ds): ∃b,ds= [.bool b]:=by
 cases h with
 |bool b h=>exact⟨b,rfl⟩
 |str s h hs=>rw[d]at h;cases h
 |int n h=>rw[d]at h;cases h
 |sl es h=>rw[d]at h;cases h
 |struct ps h=>rw[d]at h;cases h
theorem A2M{t:TypeId}{k:IntKind}{ds:List D}(d:P.underlying t=some (.int k))(h:l8 P t ds): ∃n,ds= [.int k n]∧(Lit.int k n).wf=true:=by
 cases h with
 |int n h hw=>rw[d]at h;cases h;exact⟨n,rfl,hw⟩
 |bool b h=>rw[d]at h;cases h
 |str s h hs=>rw[d]at h;cases h
 |sl es h=>rw[d]at h;cases h
 |struct ps h=>rw[d]at h;cases h
theorem B3q{t e:TypeId}{ds:List D}(d:P.underlying t=some (.slice e))(h:l8 P t ds): ∃es,ds= [.sl (P.cellsOf e) es]∧es.length*P.bytesOf e≤reachBytes∧∀x∈es,l8 P e x:=by
 cases h with
 |sl es h hl he=>rw[d]at h;cases h;exact⟨es,rfl,hl,he⟩
 |bool b h=>rw[d]at h;cases h
 |str s h hs=>rw[d]at h;cases h
 |int n h=>rw[d]at h;cases h
 |struct ps h=>rw[d]at h;cases h
theorem A2N{t:TypeId}{fs:Array Field}{ds:List D}(d:P.underlying t=some (.struct fs))(h:l8 P t ds): ∃ps:List (List D),ds=ps.flatten∧ps.length=fs.size∧∀(i:Nat) (f:Field) (p:List D),fs[i]? =some f→ps[i]? =some p→l8 P f.type p:=by
 cases h with
 |struct ps h hl hp=>rw[d]at h;cases h;exact⟨ps,rfl,hl,hp⟩
 |bool b h=>rw[d]at h;cases h
 |str s h hs=>rw[d]at h;cases h
 |int n h=>rw[d]at h;cases h
 |sl es h=>rw[d]at h;cases h
theorem B2Z{t:TypeId}{x:D}(hn: ∀fs,P.underlying t≠some (.struct fs))(h:A2L P t x):l8 P t [x]:=by
 unfold A2L at h;split at h
 ·rename_i fs d;exact absurd d (hn fs)
 ·exact h
theorem A9G{t:TypeId}{fs:Array Field}{x:D}(d:P.underlying t=some (.struct fs))(h:A2L P t x): ∃ds,x= .agg ds∧l8 P t ds:=by
 unfold A2L at h;rw[d]at h;exact h
theorem B8B{t e:TypeId}{x:D}(d:P.underlying t=some (.slice e))(h:A2L P t x): ∃es,x= .sl (P.cellsOf e) es∧es.length*P.bytesOf e≤reachBytes∧∀y∈es,l8 P e y:=by
 obtain⟨s,h1,g⟩:=B3q d (B2Z (by simp[d]) h);simp at h1;exact⟨s,h1,g⟩
theorem A6u{n:Int}(h:(Lit.int .i64 n).wf=true): -9223372036854775808≤n∧n≤9223372036854775807:=by
 unfold Lit.wf at h;rw[D0n,D0w,D0w]at h;exact h
theorem A31(hl:laidOutB P=true){W j:World}(hb:Below W.heap.size W j): ∀{g:List TypeId} {vs:List Value} {ds:List (DataW H)} {ps:List MemPlace},g.all (fun t=>P.readableRec t&&decide (t<P.types.size))=true→
  DataW.TrodAll enc P W 0 (fun _=>true) true g vs ds ps→(∀x∈ps,x.block<W.heap.size)→DataW.TrodAll enc P j 0 (fun b=>decide (b<W.heap.size)) true g vs ds ps
 | [],[],[],_,_,h,_=>h
 | [],[],_::_,_,_,h,_=>h.elim
 | [],_::_,_,_,_,h,_=>h.elim
 |_::_,[],_,_,_,h,_=>h.elim
 |_::_,_::_,[],_,_,h,_=>h.elim
 |t::g,v::vs,d::ds,ps,i,h,e=>by
  obtain⟨p,q,h1,m,rfl⟩:=h;simp only[D1d,D0n,D0w]at i;exact⟨p,q,Below.trod hl i.1.1 i.1.2 h1 hb (fun x hx=>e x (List.mem_append_left _ hx)),A31 hl hb i.2 m (fun x hx=>e x (List.mem_append_right _ hx)),rfl⟩
theorem B49{f:Nat}{fn:Func}{s:ChangeSpec}{W:World}{args:Array Value}{ds M:List (DataW H)}{g:List MemPlace}{tb:TypeId}(m:laidOutB P=true)(o:fn.params.toList.all (fun t=>P.readableRec t&&decide (t<P.types.size))=true)
  (hv:s.vars= []) (u:fn.resultTypes= #[tb]) (hb:P.underlying tb=some .bool) (hs:s.fn H ds= {results:=[.lit (.bool true)],args:=ds})
  (z:DataW.Whole enc P fn.params.toList s.vars false W args.toList ds M g) (Hp:Heap) (O: ∀b,Hp.held b=false) (T:Sat Hp W) (xs:List D) (hx:xs.length=args.size) (U: ∀(i:Nat) d,xs[i]? =some d→R W Hp d (args.getD i Go.undef))
  (V: ∀Q:D→Heap→Prop,Q (.bool true) Hp→ACalls P f xs Hp Q):Calls P f args W fun e A=>∃v,e= .returned v∧s.post enc P fn false true false false W args v A:=by
 have C:=z.lt;have G:=z;obtain⟨p,q,I,L,rfl,X,Y⟩:=z;rw[hv]at L;obtain⟨rfl,rfl⟩:=trodVars_none L;refine((V (fun d _=>d= .bool true) rfl).2 W args hx U T).mono fun e A ⟨v,he,d,H',h1,h2,y,h4,h5⟩=>⟨v,he,?_⟩
 subst h5;have J:=h1.bool_inv;subst J;have j:Below W.heap.size W A:=⟨y.os,y.tape,y.output,y.size,fun k hk=>y.block k hk (O k)⟩
 have r:s.fn H (ds++[])= {results:=[.lit (.bool true)],args:=ds}:=by rw[D1P];exact hs
 refine⟨ds,[],p++[],[],p,[],G,?_,?_,?_,j.frame _,fun h=>by cases h⟩
 ·rw[r,u];exact trodAll_mk1 (shut_bool hb true)
 ·rw[r];exact A31 m j o I (fun x hx=>C x (by simpa using hx))
 ·rw[r,hv];exact rfl
theorem A9H{P:Program}{w:World}: ∀{l:List (String×DataW Unit)} {ps:List MemPlace},DataW.LaidVars P w l ps→∀n d,(n,d)∈l→
  ∃g t cs fuel p,P.globalNamed n=some g∧(P.globals[g]?).map (·.type)=some t∧w.var? P n=some cs∧DataW.trod (fun _=>()) P w 0 (fun _=>true) false fuel t cs.toList=some (d,p)
 | [],_,_,n,d,h=>by cases h
 |(o,u)::r,ps,h,n,d,hm=>by
  obtain⟨g,t,cs,fuel,p,q,h1,i,j,m,h5,_⟩:=h;rcases D02.1 hm with e|hm
  ·cases e;exact⟨g,t,cs,fuel,p,h1,i,j,m⟩
  ·exact A9H h5 n d hm
theorem C0V{P:Program}{W:World}{laid:List (String×DataW Unit)}(h:laidMet P laid W){name:String}{k:IntKind}{A:List Int}(hm:(name,Lib.tabData k A)∈laid){g:Nat}{t e:TypeId}{n:Nat}
  (C:P.globalNamed name=some g) (q:(P.globals[g]?).map (·.type)=some t) (G:P.underlying t=some (.array n e)) (he:P.underlying e=some (.int k)) (r:P.cellsOf e=1) (u:P.cellsOf t=n) (Hp:Heap):ObjOk W Hp g (.ro (B0W k A)):=by
 obtain⟨ps,hl,_⟩:=h;obtain⟨L,M,cs,fuel,p,x,y,i,o⟩:=A9H hl _ _ hm;obtain rfl:=Option.some.inj (C.symm.trans x);obtain rfl:=Option.some.inj (q.symm.trans y);have m:=Lib.cells_of_tab G he r u o;unfold World.var? at i;rw[C]at i;simp only[D04]at i;split at i
 ·rename_i c T I hw;cases i;refine⟨cs,T,I,hw,by rw[←D1R,m];simp[B0W],fun j d o=>?_⟩;simp only[B0W,D0x,D0j]at o;obtain⟨z,J,rfl⟩:=o;have e:cs.getD j Go.undef= .int k z:=by
   rw[show cs.getD j Go.undef=cs.toList.getD j Go.undef by simp,m];simp[J]
  rw[e];exact⟨rfl,.int _ _⟩
 ·cases i
end
end Go.Av
section
set_option maxRecDepth 100000
namespace Go.Proofs.YtibphjonmikciaaGreatDoor
open Go Go.Av Go.Lexs Go.Lin
theorem own:ownKnob Tryz.prog.godebug=none:=by kernel_rfl
theorem C0W:laidOutB Tryz.prog=true:=by kernel_rfl
def A9I(u v:Nat):Heap:=fun g=>if g=1 then some (.ro (B0W .u64 Lib.pow10Tab))
 else if g=2 then some (.ro [.iface u .undef])
 else if g=3 then some (.ro [.iface v .undef])else none
theorem A4n(u v:Nat)(b:Nat):(A9I u v).held b=false:=by
 cases h:A9I u v b with
 |none=>exact I1 h
 |some o=>
  have: ∃cs,o= .ro cs:=by
   unfold A9I at h;repeat' (split at h;· cases h;exact⟨_,rfl⟩)
   cases h
  obtain⟨cs,rfl⟩:=this;rw[J5 h];rfl
theorem B5A(u v:Nat):Tabs (A9I u v):=by
 refine⟨?_,⟨u,?_⟩,⟨v,?_⟩⟩<;>(unfold A9I;simp only[Nat.reduceEqDiff,if_true,if_false])
theorem B3r{P:Program}{W:World}{laid:List (String×DataW Unit)}(h:laidMet P laid W){name C:String}{x:DataW Unit}(hm:(name,DataW.iface C x)∈laid){g:Nat}{t:TypeId}{ms:Array String}
  (z:P.globalNamed name=some g) (q:(P.globals[g]?).map (·.type)=some t) (A:(match P.underlying t with|some (.interface _)=>true|_=>false)=true) (Hp:Heap): ∃u,ObjOk W Hp g (.ro [.iface u .undef]):=by
 obtain⟨ps,hl,_⟩:=h;obtain⟨J,L,cs,fuel,p,r,y,i,m⟩:=A9H hl _ _ hm;obtain rfl:=Option.some.inj (z.symm.trans r);obtain rfl:=Option.some.inj (q.symm.trans y);have hc: ∃u v,cs.toList= [.iface u v]:=by
  cases fuel with
  |zero=>simp[DataW.trod]at m
  |succ fuel=>
   unfold DataW.trod at m;split at A
   ·rename_i ms G;rw[G]at m;split at m<;>first|(rename_i h1 M;cases h1;done)|skip
    all_goals first|exact⟨_,_,by assumption⟩|(simp at m;done)
   ·cases A
 obtain⟨u,v,o⟩:=hc;unfold World.var? at i;rw[z]at i;simp only[D04]at i;split at i
 ·rename_i c T I hw;cases i;refine⟨u,cs,T,I,hw,by rw[←D1R,o];rfl,fun j d m=>?_⟩
  match j,m with
  |0,m=>
   cases m;have e:cs.getD 0 Go.undef= .iface u v:=by
    rw[show cs.getD 0 Go.undef=cs.toList.getD 0 Go.undef by simp,o];rfl
   rw[e];exact⟨rfl,.iface _ _ _ (.undef _)⟩
  |j+1,m=>cases m
 ·cases i
theorem B8C:(Rows.laid_internal_strconv_uint64pow10:DataW Unit)=Lib.tabData .u64 Lib.pow10Tab:=by kernel_rfl
theorem B8D{W:World}{laid:List (String×DataW Unit)}(h:laidMet Tryz.prog laid W)(h1:("internal/strconv.uint64pow10",(Rows.laid_internal_strconv_uint64pow10:DataW Unit))∈laid)(p:("strconv.ErrSyntax",(Rows.laid_strconv_ErrSyntax:DataW Unit))∈laid)(q:("strconv.ErrRange",(Rows.laid_strconv_ErrRange:DataW Unit))∈laid):
  ∃u v,Sat (A9I u v) W:=by
 rw[B8C]at h1;obtain⟨u,r⟩:=B3r (ms:= #[]) h p (g:=2) (by kernel_rfl) (t:=140) (by kernel_rfl) (by kernel_rfl) (fun _=>none);obtain⟨v,hv⟩:=B3r (ms:= #[]) h q (g:=3) (by kernel_rfl) (t:=140) (by kernel_rfl) (by kernel_rfl) (fun _=>none);refine⟨u,v,?_⟩;intro b o hb;unfold A9I at hb;have mono: ∀{b x:Nat},ObjOk W (fun _=>none) b (.ro [.iface x .undef])→ObjOk W (A9I u v) b (.ro [.iface x .undef]):=fun {b x} ⟨c,T,z,A,C,m⟩=>⟨c,T,z,A,C,fun j d i=>⟨(m j d i).1,by
  have:=(m j d i).2
  match j,i with
  |0,i=>
   cases i;generalize c.getD 0 Go.undef=y at this⊢;cases this with
   |iface _ _ v hr=>exact .iface _ _ _ (.undef _)
  |j+1,i=>cases i⟩⟩
 split at hb
 ·rename_i e;cases hb;subst e;exact C0V h h1 (by kernel_rfl) (t:=(Tryz.prog.globals[1]?.map (·.type)).getD 0) (by kernel_rfl) (n:=20) (e:=196) (by kernel_rfl) (by kernel_rfl) (by kernel_rfl) (by kernel_rfl) _
 split at hb
 ·rename_i e;cases hb;subst e;exact mono r
 split at hb
 ·rename_i e;cases hb;subst e;exact mono hv
 ·cases hb
theorem B2a{α :Type}: ∀(l:List α),l.length=3→∃a b c,l= [a,b,c]
 | [a,b,c],_=>⟨a,b,c,rfl⟩
 | [],h=>by cases h
 | [_],h=>by cases h
 | [_,_],h=>by cases h
 |_::_::_::_::_,h=>by simp at h
theorem B1M{α :Type}: ∀(l:List α),l.length=2→∃a b,l= [a,b]
 | [a,b],_=>⟨a,b,rfl⟩
 | [],h=>by cases h
 | [_],h=>by cases h
 |_::_::_::_,h=>by simp at h
theorem B3s{α :Type}{f: α →List D}{p: α →Prop}: ∀(es:List (List D)),(∀x∈es,∃t,x=f t∧p t)→∃l:List α,es=Rw f l∧∀t∈l,p t
 | [],_=>⟨[],rfl,by simp⟩
 |x::es,h=>by
  obtain⟨t,rfl,e⟩:=h x (by simp);obtain⟨l,rfl,hl⟩:=B3s es (fun y g=>h y (by simp[g]));refine⟨t::l,rfl,fun u d=>?_⟩;rcases D02.1 d with rfl|d
  ·exact e
  ·exact hl u d
theorem C0X{el:List D}(h:l8 Tryz.prog 114 el): ∃t:LTm,el=S1 t∧(t.v.size≤140737488351232∧Y4 t.c):=by
 have d:reachBytes=140737488351232:=rfl;obtain⟨ps,rfl,hl,hp⟩:=A2N Tryz.underlying114 h;obtain⟨e,g,rfl⟩:=B1M ps hl;obtain⟨s,rfl,hs⟩:=A6t (by kernel_rfl) (hp 0 _ _ rfl rfl);obtain⟨n,rfl,hn⟩:=A2M (k:=.i64) (by kernel_rfl) (hp 1 _ _ rfl rfl);exact⟨⟨s,n⟩,rfl,by simp only[];omega,A6u hn⟩
theorem B8E{el:List D}(h:l8 Tryz.prog 25 el): ∃a:LinV,el=D9 a∧S3 a:=by
 have j:reachBytes=140737488351232:=rfl;obtain⟨ps,rfl,hl,hp⟩:=A2N Tryz.underlying25 h;obtain⟨r,u,x,rfl⟩:=B2a ps hl;obtain⟨es,rfl,he,g⟩:=B3q (e:=114) (by kernel_rfl) (hp 0 _ _ rfl rfl);obtain⟨k,rfl,hk⟩:=A2M (k:=.i64) (by kernel_rfl) (hp 1 _ _ rfl rfl);obtain⟨b,rfl⟩:=B48 (by kernel_rfl) (hp 2 _ _ rfl rfl);have m:Tryz.prog.cellsOf 114=2:=by kernel_rfl
 have o:Tryz.prog.bytesOf 114=24:=by kernel_rfl
 rw[o]at he;obtain⟨l,rfl,d⟩:=B3s (f:=S1) (p:=fun t=>t.v.size≤140737488351232∧Y4 t.c) es (fun y q=>C0X (g y q));rw[D5]at he;rw[m];exact⟨⟨l,k,b⟩,rfl,by simp only[];omega,fun t i=>(d t i).1,fun t i=>(d t i).2,A6u hk⟩
theorem C0Y{el:List D}(h:l8 Tryz.prog 71 el): ∃t:VlV,el=vlC t∧(t.v.size≤140737488351232∧Y4 t.n):=by
 have d:reachBytes=140737488351232:=rfl;obtain⟨ps,rfl,hl,hp⟩:=A2N Tryz.underlying71 h;obtain⟨e,g,rfl⟩:=B1M ps hl;obtain⟨s,rfl,hs⟩:=A6t (by kernel_rfl) (hp 0 _ _ rfl rfl);obtain⟨n,rfl,hn⟩:=A2M (k:=.i64) (by kernel_rfl) (hp 1 _ _ rfl rfl);exact⟨⟨s,n⟩,rfl,by simp only[];omega,A6u hn⟩
theorem B2b{x:D}(h:A2L Tryz.prog 40 x): ∃l:List VlV,x= .sl 2 (Rw vlC l)∧A03 l:=by
 have i:reachBytes=140737488351232:=rfl;obtain⟨es,rfl,he,d⟩:=B8B (e:=71) (by kernel_rfl) h;have j:Tryz.prog.cellsOf 71=2:=by kernel_rfl
 have m:Tryz.prog.bytesOf 71=24:=by kernel_rfl
 rw[m]at he;obtain⟨l,rfl,hl⟩:=B3s (f:=vlC) (p:=fun t=>t.v.size≤140737488351232∧Y4 t.n) es (fun y o=>C0Y (d y o));rw[D5]at he;rw[j];exact⟨l,rfl,by omega,fun t g=>(hl t g).1,fun t g=>(hl t g).2⟩
open Go Go.Av Go.Lexs Go.Lin Go.Fo
theorem B5B{α :Type}: ∀(l:List α),l.length=5→∃a b c d e,l= [a,b,c,d,e]
 | [a,b,c,d,e],_=>⟨a,b,c,d,e,rfl⟩
 | [],h=>by cases h
 | [_],h=>by cases h
 | [_,_],h=>by cases h
 | [_,_,_],h=>by cases h
 | [_,_,_,_],h=>by cases h
 |_::_::_::_::_::_::_,h=>by simp at h
def FmD(ds:List D):Prop:=∃f,ds=C1 f∧FmFit f
def C9X(ds:List D):Prop:=∃l,ds= [.sl 7 (Rw C1 l)]∧l.length≤1466015503658∧∀k∈l,FmFit k
theorem B2c{t:TypeId}{ds:List D}(h:l8 Tryz.prog t ds):(t=28→FmD ds)∧(t=26→C9X ds):=by
 have m:reachBytes=140737488351232:=rfl;have e:Tryz.prog.underlying 28=_:=Tryz.underlying28;have g:Tryz.prog.underlying 26=some (.slice 28):=by kernel_rfl
 have q:Tryz.prog.cellsOf 28=7:=by kernel_rfl
 have r:Tryz.prog.bytesOf 28=96:=by kernel_rfl
 induction h with
 |bool b h=>exact⟨(by rintro rfl;rw[e]at h;cases h),(by rintro rfl;rw[g]at h;cases h)⟩
 |int n h hw=>exact⟨(by rintro rfl;rw[e]at h;cases h),(by rintro rfl;rw[g]at h;cases h)⟩
 |str s h hs=>exact⟨(by rintro rfl;rw[e]at h;cases h),(by rintro rfl;rw[g]at h;cases h)⟩
 |sl es h hl he i=>
  refine⟨(by rintro rfl;rw[e]at h;cases h),?_⟩;rintro rfl;rw[g]at h;cases h;rw[r]at hl;obtain⟨l,rfl,d⟩:=B3s (f:=C1) (p:=FmFit) es (fun y u=>(i y u).1 rfl);rw[D5]at hl;rw[q];exact⟨l,rfl,by omega,d⟩
 |struct ps h hl hp i=>
  refine⟨?_,(by rintro rfl;rw[g]at h;cases h)⟩;rintro rfl;rw[e]at h;cases h;obtain⟨z,A,C,G,I,rfl⟩:=B5B ps hl;obtain⟨o,rfl,ho⟩:=A2M (k:=.i64) (by kernel_rfl) (hp 0 _ _ rfl rfl);obtain⟨n,rfl,hn⟩:=A2M (k:=.i64) (by kernel_rfl) (hp 1 _ _ rfl rfl);obtain⟨a,rfl,x⟩:=B8E (hp 2 _ _ rfl rfl);obtain⟨s,rfl,hs⟩:=A6t (by kernel_rfl) (hp 3 _ _ rfl rfl);obtain⟨l,rfl,j,d⟩:=(i 4 _ _ rfl rfl).2 rfl;refine⟨.mk o n a s l,?_,.mk _ _ _ _ _ (A6u ho) (A6u hn) x (by omega) j d⟩;rw[N7];rfl
theorem B2d{x:D}(h:A2L Tryz.prog 28 x): ∃f:Fm,x= .agg (C1 f)∧FmFit f:=by
 obtain⟨ds,rfl,hv⟩:=A9G Tryz.underlying28 h;obtain⟨f,rfl,d⟩:=(B2c hv).1 rfl;exact⟨f,rfl,d⟩
theorem B3t:plainB Tryz.prog [28,26,22,25,114,23,71,40,4,3,9]=true:=by kernel_rfl
theorem C0Z:laidOutB Tryz.pinned.checked.prog=true:=by kernel_rfl
theorem B8F:mapsRowed Tryz.pinned.checked.prog=true:=by kernel_rfl
theorem B8G:Tryz.pinned.checked.prog.stopsHeard=true:=by kernel_rfl
theorem C4F:Tryz.pinned.checked.prog.mayEnter=true:=by kernel_rfl
end Go.Proofs.YtibphjonmikciaaGreatDoor
end
