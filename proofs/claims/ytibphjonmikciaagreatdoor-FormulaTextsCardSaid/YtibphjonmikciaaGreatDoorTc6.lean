/- Part of the proof: what the last text builds on. No condition stands here. -/
import Derived.Test.YtibphjonmikciaaGreatDoorProg
import Derived.Test.YtibphjonmikciaaGreatDoorRows
import Derived.Test.YtibphjonmikciaaGreatDoorCards
import Derived.Test.YtibphjonmikciaaGreatDoorTie
import Derived.Test.YtibphjonmikciaaGreatDoorTc5
set_option linter.unusedSimpArgs false
set_option linter.unusedVariables false
set_option maxRecDepth 20000
namespace Go.Fo
open Go Go.Av Go.Lexs Go.Lin
theorem C4o{c:UInt8}{r:List UInt8}(d:UInt8):(I3 (c::r) 0=(d.toNat:Int))=(pre [d] (c::r)=true):=by
 rw[M4];refine propext ⟨fun h=>?_,fun h=>?_⟩
 ·rw[beq_iff_eq];apply UInt8.toNat_inj.1;have:((c.toNat:Nat):Int)=d.toNat:=h;omega
 ·rw[beq_iff_eq]at h;subst h;rfl
theorem B5o(r:List UInt8):E8 r=r.take (E8 r).length:=by
 have h:E8 r++Q6 r=r:=List.takeWhile_append_dropWhile
 conv=>rhs;rw[←h]
 rw[List.take_left' (by rw[h])]
theorem A9q{r:List UInt8}{k:Nat}(h:k<r.length):nst r[k]=true↔(I3 r k≠44∧I3 r k≠41):=by
 have e1:=O8 h 44;have e2:=O8 h 41;unfold nst A8Z;simp only[Bool.not_eq_true',Bool.or_eq_false_iff,beq_eq_false_iff_ne,ne_eq];exact⟨fun⟨a,b⟩=>⟨fun e=>a (e1.1 e),fun e=>b (e2.1 e)⟩,fun⟨a,b⟩=>⟨fun e=>a (e1.2 e),fun e=>b (e2.2 e)⟩⟩
theorem A7Q{r:List UInt8}{n:Nat}(hn:n≤r.length)(d: ∀c∈r.take n,nst c=true)(g: ∀h:n<r.length,nst r[n]=false):(E8 r).length=n:=by
 have e:r=r.take n++r.drop n:=(D2K n r).symm;have j:Stp (r.drop n):=fun c q h=>by
  by_cases i:n<r.length
  ·rw[D14 i]at h;injection h with h1 h2
   rw[←h1];exact g i
  ·rw[D2S (by omega)]at h;cases h
 have:=(A1L d j).1;rw[←e]at this;rw[this,D2H];omega
theorem z8{H Bs:Heap}{e x:Nat}{o V:Av.Obj}(d:H.Le Bs)(g:H e=none)(hx:Bs x=none):H.Le ((Bs.set x o).set e V):=F3 (d.trans (A2 hx)) g
theorem C01{H Bs:Heap}{g d x:Nat}{o o1 V:Av.Obj}(h:H.Le Bs)(i:H g=none)(j:Bs d=none)(hx:x≠d∧Bs x=none):H.Le ((((Bs.set d o).set x o1).set g V).del x):=fun k p hk=>by
 have m:k≠g:=fun e=>by rw[e,i]at hk;cases hk
 have hk:=h k p hk;have n6:k≠d:=fun e=>by rw[e,j]at hk;cases hk
 have nx:k≠x:=fun e=>by rw[e,hx.2]at hk;cases hk
 rw[F1 nx,A3 _ m,A3 _ nx,A3 _ n6];exact hk
end Go.Fo
namespace Go.Proofs.YtibphjonmikciaaGreatDoor
open Go Go.Av Go.Lexs Go.Lin Go.Fo
attribute [local irreducible] ACalls Q4
theorem C4p{Q}(s:ByteArray)(hs:s.size≤1000000)(H:Heap)(h:Q (.int .i64 (E8 (B s)).length) H):D8 121 [.str s] H Q:=by
 refine A8 [] A5 Tryz.func121 rfl ?_;simp only[go_sem,seval,Tryz.results121];obtain⟨l,p⟩: ∃l,l=B s:=⟨_,rfl⟩
 have hl:l.length=s.size:=by rw[p,M8]
 rw[←p]at h;have q: ∀k:Nat,Q4 s (k:Int)=I3 l k:=fun k=>by rw[A9I,p];rfl
 refine C2 [0] (fun(n:Nat)=>[(3,.int .i64 n)]) (fun(n:Nat)=>H) (fun(n:Nat)=>n≤l.length∧∀c∈l.take n,nst c=true) (fun(n:Nat)=>l.length-n) (0) (⟨D1u _,by simp⟩) (by simp only[go_sem,seval]) (D20 _) ?_;rintro r rfl n ⟨hn,d⟩;have hw:IntKind.i64.wrap ((n:Int)+1)=(n:Int)+1:=A4 (by omega) (by omega);have g:=q n;by_cases i:n<l.length
 ·have e:decide ((n:Int)<s.size)=true:=D1b (by omega);have j:(n:Int)<s.size:=by omega
  by_cases m:I3 l n=44
  ·rw[A7Q hn d fun h=>by cases hx:nst l[n]with|false=>rfl|true=>exact absurd m ((A9q h).1 hx).1]at h;repeat' (first|with_reducible apply D1Z|simp only[go_sem,seval,e,j,g,m,decide_true,decide_false,D2x]|omega)
   exact D22 h
  ·by_cases o:I3 l n=41
   ·rw[A7Q hn d fun h=>by cases hx:nst l[n]with|false=>rfl|true=>exact absurd o ((A9q h).1 hx).2]at h;repeat' (first|with_reducible apply D1Z|simp only[go_sem,seval,e,j,g,m,o,decide_true,decide_false,D2y,D2x]|omega)
    exact D22 h
   ·have hst:nst l[n]=true:=(A9q i).2 ⟨m,o⟩;repeat' (first|with_reducible apply D1Z|simp only[go_sem,seval,e,j,g,m,o,decide_false,D2y,hw]|omega)
    exact C1 (n+1) ⟨by omega,l4 i d hst⟩ (by omega) (by(try simp only[go_sem,seval])<;>(try simp(disch:=omega) [A4])) (by simp only[D7,C9,D0]at* <;>grind)
 ·have e:decide ((n:Int)<s.size)=false:=D1c (by omega);rw[A7Q hn d fun h=>absurd h i]at h;repeat' simp only[go_sem,seval,e]
  exact D22 h
def RdC(e:Nat):Prop:=∀(Q:D→Heap→Prop) (r:List UInt8),r.length≤20000→∀(H:Heap),Q (.tuple [.agg (B9 (J1 e r).1),.int .i64 (J1 e r).2]) H→D8 72 [.str (S r),.int .i64 e] H Q
theorem C4q:RdC 0:=by
 intro Q r hr H h;rw[J1]at h;refine A8 [] A5 Tryz.func72 rfl ?_;simp only[go_sem,seval,Tryz.results72];intro e g;have i:(H.set e (.box [.int .i64 0,.int .i64 0,.nilsl,.int .i64 0,.bool false,.str ⟨#[]⟩,.nilsl])) e=some (.box [.int .i64 0,.int .i64 0,.nilsl,.int .i64 0,.bool false,.str ⟨#[]⟩,.nilsl]):=A0 _ _;have d:H.Le (H.set e (.box [.int .i64 0,.int .i64 0,.nilsl,.int .i64 0,.bool false,.str ⟨#[]⟩,.nilsl])):=A2 g;generalize H.set e (.box [.int .i64 0,.int .i64 0,.nilsl,.int .i64 0,.bool false,.str ⟨#[]⟩,.nilsl])=Bs at i d⊢;repeat' (first|with_reducible apply D1Z|simp only[go_sem,seval,i]|simp(disch:=omega) only[C3]|intro j|omega)
 exact D4 (U3 _) (D21 (by first|exact d|exact F3 d g) h)
theorem B8l{e:Nat}{r:List UInt8}(hr:r.length≤20000):(J1 e r).2≤r.length:=(B1s e r hr).1
set_option maxHeartbeats 8000000 in
theorem C4r(e:Nat)(he:e+1≤60)(hF:RdC e):RdC (e+1):=by
  intro Q r hr H h;refine A8 [(10,.wk)] A5 Tryz.func72 rfl ?_;simp only[go_sem,seval,Tryz.results72];intro b4 g4;have e4:(H.set b4 (.box [.int .i64 0,.int .i64 0,.nilsl,.int .i64 0,.bool false,.str ⟨#[]⟩,.nilsl])) b4=some (.box [.int .i64 0,.int .i64 0,.nilsl,.int .i64 0,.bool false,.str ⟨#[]⟩,.nilsl]):=A0 _ _;have I:H.Le (H.set b4 (.box [.int .i64 0,.int .i64 0,.nilsl,.int .i64 0,.bool false,.str ⟨#[]⟩,.nilsl])):=A2 g4;generalize H.set b4 (.box [.int .i64 0,.int .i64 0,.nilsl,.int .i64 0,.bool false,.str ⟨#[]⟩,.nilsl])=Bs at e4 I⊢;have d0: ∀x,H.Le (Bs.set b4 x):=fun x=>F3 I g4;have d8:IntKind.i64.wrap (((e+1:Nat):Int)-1)=(e:Int):=by rw[A4 (by omega) (by omega)];omega
  have T: ¬((e+1:Nat):Int)<1:=by omega
  have U: ∀(w l:List UInt8),(S w=⟨l.toArray⟩)=(w=l):=A5C;have u:(S r=⟨#[]⟩)=(r= []):=A5C r [];rw[J1]at h;by_cases z:r= []
  · rw[if_pos z]at h
    have hz:(r.length:Int)=0:=by rw[z];rfl
    repeat' (first|with_reducible apply D1Z|simp only[go_sem,seval,e4,T,u,z])
    exact D4 (U3 _) (D21 (by first|exact I|exact d0 _) h)
  rw[if_neg z]at h
  obtain⟨c,r',d9⟩: ∃c r',r=c::r':=by
    cases r with
    |nil=>exact absurd rfl z
    |cons c r'=>exact⟨c,r',rfl⟩
  have h0: ∀d:UInt8,(I3 r 0=(d.toNat:Int))=(pre [d] r=true):=fun d=>by rw[d9];exact C4o d
  have y:Q4 (S r) 0=I3 r 0:=by rw[A3u,Q7]
  have j1 : 0 < (r.length : Int) := by have:0<r.length:=by rw[d9];simp
                                       omega
  have e6:(I3 r 0=33)=(pre [33] r=true):=h0 33;have e7:(I3 r 0=38)=(pre [38] r=true):=h0 38;have a6:(I3 r 0=124)=(pre [124] r=true):=h0 124;cases p1:pre [33] r with
  |true=>
    have V:I3 r 0=33:=by rw[e6];exact p1
    rw[p1]at h;simp only[if_true]at h;have b2:=B8l (e:=e) (r:=r.drop 1) (by rw[D17];omega);rw[D17]at b2;have rc:=fun(Q:D→Heap→Prop) (H:Heap)=>hF Q (r.drop 1) (by rw[D17];omega) H;repeat' (first|with_reducible apply D1Z|simp only[go_sem,seval,e4,T,u,z,y,V,d8]|simp(disch:=omega) only[A4,C3]|simp(disch:=first|omega|grind) only[B3]|(intro i;try simp only[A6]at i)|with_reducible refine rc _ _ ?_|omega)
    rename_i b6 h6 x;have hx:=i;clear i;have n4:x≠b4:=fun e=>by rw[e,e4]at hx;cases hx.2
    have a4:(((J1 e (r.drop 1)).2+1:Nat):Int)=(((J1 e (r.drop 1)).2:Nat):Int)+1:=by omega
    rw[a4]at h;refine A4L (ob:=some x) (ks:=[(J1 e (r.drop 1)).1]) rfl (?_:(Heap.set _ b4 _) x=_) (D21 (C01 I g4 h6 hx) h);rw[A3 _ n4];exact A0 _ _
  |false=>
    have V: ¬I3 r 0=33:=by rw[e6,p1];decide
    rw[p1]at h;simp only[D1p,if_false]at h;by_cases p2:pre [38] r=true∨pre [124] r=true
    · rw[if_pos p2]at h
      obtain⟨o,ho⟩: ∃o:Int,o=if pre [124] r=true then 6 else 5:=⟨_,rfl⟩
      rw[←ho]at h;have e9:min (2:Int) (r.length:Int)=((min 2 r.length:Nat):Int):=by omega
      apply A3a (C:=fun b8 G=>Bs.Le G∧Bs b8=none∧G b8=some (.box [.int .i64 o,.int .i64 0,.nilsl,.int .i64 0,.bool false,.str ⟨#[]⟩,.nilsl]))
      · intro hJ
        by_cases q2:I3 r 0=124
        · have q1: ¬I3 r 0=38:=by omega
          have g6:o=6:=by rw[ho,if_pos (by rw[←a6];exact q2)]
          repeat' (first|with_reducible apply D1Z|simp only[go_sem,seval,e4,T,u,z,y,V,q1,q2]|(intro i;try simp only[A6]at i)|omega)
          rename_i b8;have h8:=i;clear i
          exact F2 [(0,.str (S r)),(1,.int .i64 (e+1:Nat)),(4,.box b4 0),(8,.box b8 0)] _ (by simp only[go_sem,seval]) (D20 _) (hJ b8 _ ⟨fun k q hk=>(by
            have:k≠b8:=fun e=>by rw[e,h8]at hk;cases hk
            first
              |(rw[A3 _ this];exact hk)
              |(rw[A3 _ this,A3 _ this];exact hk)),h8,by rw[g6];exact A0 _ _⟩)
        · have q1:I3 r 0=38:=by
            rcases p2 with g|g
            · rw[e7];exact g
            · exact absurd (by rw[a6];exact g) q2
          have g7:o=5:=by rw[ho,if_neg (by rw[←a6];exact q2)]
          repeat' (first|with_reducible apply D1Z|simp only[go_sem,seval,e4,T,u,z,y,V,q1,q2]|(intro i;try simp only[A6]at i)|omega)
          rename_i b8;have h8:=i;clear i;exact F2 [(0,.str (S r)),(1,.int .i64 (e+1:Nat)),(4,.box b4 0),(8,.box b8 0)] _ (by simp only[go_sem,seval]) (D20 _) (hJ b8 _ ⟨A2 h8,h8,by rw[g7];exact A0 _ _⟩)
      rintro b8 Cs ⟨c8,h8,e8⟩;have f0:b4≠b8:=fun e=>by rw[←e,e4]at h8;cases h8
      have a5:=I.trans c8;have d2:=I.none h8;have b3:=c8 _ _ e4;clear e4 d0;obtain⟨M,hM⟩: ∃M,M=Y1 (J1 e) r (r.length+1) (min 2 r.length) []:=⟨_,rfl⟩
      rw[←hM]at h;have g8:Rw B9 ([]:List Fm)= []:=rfl;repeat' simp only[go_sem,seval,e9]
      refine C2 [0,1,4,8] (fun(p:Nat×Nat×List Fm×Option Nat×Heap)=>[(9,.int .i64 p.2.1)]) (fun(p:Nat×Nat×List Fm×Option Nat×Heap)=>p.2.2.2.2) (fun(p:Nat×Nat×List Fm×Option Nat×Heap)=>p.2.1≤r.length∧AH 7 Cs b8 (fun x=>[.int .i64 o,.int .i64 0,.nilsl,.int .i64 0,.bool false,.str ⟨#[]⟩,x]) (Rw B9 p.2.2.1) p.2.2.1.length p.2.2.2.1 p.2.2.2.2∧Y1 (J1 e) r p.1 p.2.1 p.2.2.1=M∧p.2.2.1.length+p.1=r.length+1∧1≤p.1∧(r.length+1≤p.1+p.2.1∨¬(p.2.1<r.length∧I3 r p.2.1≠41))) (fun(p:Nat×Nat×List Fm×Option Nat×Heap)=>p.1) ((r.length+1,min 2 r.length,[],none,Cs)) (⟨by simp only[];omega,A1P e8,hM.symm,by simp,by simp only[];omega,.inl (by simp only[];omega)⟩) (by(try simp only[go_sem,seval])<;>(try simp(disch:=omega) [A4])<;>(try omega)) (D20 _) ?_;rintro Ec rfl ⟨n,k,out,ob,Hp⟩ ⟨hk,A,hm,g9,h2,f4⟩;simp only at hk A hm g9 h2 f4;obtain⟨n,rfl⟩: ∃m,n=m+1:=⟨n-1,by omega⟩
      rw[Y1]at hm;have c9: ∀j:Nat,Q4 (S r) (j:Int)=I3 r j:=fun j=>by rw[A3t,Q7]
      have f5:=c9 k;by_cases hc:k<r.length∧I3 r k≠41
      · rw[if_pos hc]at hm
        obtain⟨d3,c5⟩:=hc;have b7:decide ((k:Int)<r.length)=true:=D1b (by omega);have d4:(k:Int)<r.length:=by omega
        have j2:r.length+1≤n+1+k:=by
          rcases f4 with g|g
          · exact g
          · exact absurd ⟨d3,c5⟩ g
        have b2:=B8l (e:=e) (r:=r.drop k) (by rw[D17];omega);rw[D17]at b2;have rc:=fun(Q:D→Heap→Prop) (H:Heap)=>hF Q (r.drop k) (by rw[D17];omega) H;obtain⟨⟨f,m⟩,h3⟩: ∃x,x=J1 e (r.drop k):=⟨_,rfl⟩
        rw[←h3]at b2 rc hm;simp only at b2 rc hm;repeat' (first|with_reducible apply D1Z|simp only[go_sem,seval,b7,d4,f5,c5,d8]|(intro i;try simp only[A6]at i)|with_reducible refine rc _ _ ?_|omega)
        rename_i h4;have f7:=i;clear i;obtain⟨f6,f8,fO,fN⟩:=A.at7 f7 (.box (B9 f));have d5:=A.more f7 (.box (B9 f));generalize Hp.set h4 (.box (B9 f))=Hr at f6 f8 fO d5⊢;repeat' (first|simp only[go_sem,seval,f6,f8]|(intro i;try simp only[A6]at i))
        rename_i x;have hx:=i;clear i;obtain⟨_,_,h7,_⟩:=d5.at7 hx (.vec 7 [B9 f]);refine A55 (Rw B9 out) (by simp) (by rw[D6]) h7 (by simp only[D1e,D1g];omega) (by simp only[D1e,D1g];omega) fun b' h9=>?_;obtain⟨i3,a9,A'⟩:=d5.step hx _ h9 (B9 f);revert A';generalize b0:((L5 (Hr.set x (.vec 7 [B9 f])) ob).set b' (.vec 7 (Rw B9 out++[B9 f]))).set b8 (.box [.int .i64 o,.int .i64 0,.nilsl,.int .i64 0,.bool false,.str ⟨#[]⟩,.vec b' 7 0 (out.length+1)])=Hf;intro A';have eR:Rw B9 out++[B9 f]=Rw B9 (out++[f]):=by simp[Rw]
        have eL:out.length+1=(out++[f]).length:=by simp
        rw[eR,eL]at A';have f9:=A'.box;have g0:=A'.keep b4 _ f0 b3;have a4:IntKind.i64.wrap ((k:Int)+(m:Int))=((k+m:Nat):Int):=by rw[A4 (by omega) (by omega)];omega
        have W:IntKind.i64.wrap (((k+m:Nat):Int)+1)=((k+m+1:Nat):Int):=by rw[A4 (by omega) (by omega)];omega
        have i0:IntKind.i64.wrap (((k+m:Nat):Int)+2)=((k+m+2:Nat):Int):=by rw[A4 (by omega) (by omega)];omega
        have b1:=c9 (k+m)
        have last: ∀(hm:(out++[f],r.length)=M),Fin Q (.tuple [.agg [.int .i64 o,.int .i64 0,.nilsl,.int .i64 0,.bool false,.str ⟨#[]⟩,.vec b' 7 0 (out.length+1)],.int .i64 r.length]) (Hf.set b4 (.box [.int .i64 o,.int .i64 0,.nilsl,.int .i64 0,.bool false,.str ⟨#[]⟩,.vec b' 7 0 (out.length+1)])):=fun hm=>by
          rw[←hm]at h;exact A4L (ob:=some b') (ks:=out++[f]) eL (A'.out2 b3 _) (D21 (A'.le2 a5 d2 g4 _) h)
        have next: ∀(n':Nat),n=n'+1→¬(k+m<r.length∧I3 r (k+m)≠41)→(out++[f],min (k+m+1) r.length)=M→Y1 (J1 e) r n (k+m) (out++[f])=M:=fun n' en hn hm=>by
          rw[en,Y1,if_neg hn];exact hm
        obtain⟨n',d6⟩: ∃n',n=n'+1:=⟨n-1,by omega⟩
        by_cases c1:k+m+1<r.length
        · have k1:decide (((k+m+1:Nat):Int)<r.length)=true:=D1b (by omega)
          have k2:decide (((k+m:Nat):Int)<r.length)=true:=D1b (by omega);have t1:((k+m:Nat):Int)<r.length:=by omega
          by_cases c2:I3 r (k+m)=44
          · rw[if_pos ⟨c1,c2⟩]at hm
            repeat' (first|with_reducible apply D1Z|simp only[go_sem,seval,a9,a4,W,i0,b1,k1,t1,c2]|omega)
            exact C1 (n,k+m+2,out++[f],some b',Hf) ⟨by simp only[];omega,A',hm,by simp only[D1f,D1h];omega,by simp only[];omega,.inl (by simp only[];omega)⟩ (by simp only[];omega) (by simp only[go_sem,seval]) (by rw[←b0];exact D20 _)
          · rw[if_neg (fun x=>c2 x.2)]at hm
            by_cases J:I3 r (k+m)=41
            · rw[if_neg (fun x=>x.2 J)]at hm
              repeat' (first|with_reducible apply D1Z|simp only[go_sem,seval,a9,a4,W,b1,k1,k2,t1,c2,J]|omega)
              exact C1 (n,k+m,out++[f],some b',Hf) ⟨by simp only[];omega,A',next n' d6 (fun x=>x.2 J) hm,by simp only[D1f,D1h];omega,by simp only[];omega,.inr (fun x=>x.2 J)⟩ (by simp only[];omega) (by simp only[go_sem,seval]) (by rw[←b0];exact D20 _)
            · rw[if_pos ⟨by omega,J⟩]at hm
              repeat' (first|with_reducible apply D1Z|simp only[go_sem,seval,a9,a4,W,b1,k1,k2,t1,c2,J,f9,g0,b0]|omega)
              exact last hm
        · rw[if_neg (fun x=>c1 x.1)]at hm
          have k1:decide (((k+m+1:Nat):Int)<r.length)=false:=D1c (by omega);by_cases c4:k+m<r.length
          · have k2:decide (((k+m:Nat):Int)<r.length)=true:=D1b (by omega)
            have t1:((k+m:Nat):Int)<r.length:=by omega
            by_cases J:I3 r (k+m)=41
            · rw[if_neg (fun x=>x.2 J)]at hm
              repeat' (first|with_reducible apply D1Z|simp only[go_sem,seval,a9,a4,W,b1,k1,k2,t1,J]|omega)
              exact C1 (n,k+m,out++[f],some b',Hf) ⟨by simp only[];omega,A',next n' d6 (fun x=>x.2 J) hm,by simp only[D1f,D1h];omega,by simp only[];omega,.inr (fun x=>x.2 J)⟩ (by simp only[];omega) (by simp only[go_sem,seval]) (by rw[←b0];exact D20 _)
            · rw[if_pos ⟨by omega,J⟩]at hm
              repeat' (first|with_reducible apply D1Z|simp only[go_sem,seval,a9,a4,W,b1,k1,k2,t1,J,f9,g0,b0]|omega)
              exact last hm
          · rw[if_neg (fun x=>c4 x.1)]at hm
            have k2:decide (((k+m:Nat):Int)<r.length)=false:=D1c (by omega);repeat' simp only[go_sem,seval,a9,a4,W,b1,k1,k2]
            exact C1 (n,k+m,out++[f],some b',Hf) ⟨by simp only[];omega,A',next n' d6 (fun x=>c4 x.1) hm,by simp only[D1f,D1h];omega,by simp only[];omega,.inr (fun x=>c4 x.1)⟩ (by simp only[];omega) (by simp only[go_sem,seval]) (by rw[←b0];exact D20 _)
      · rw[if_neg hc]at hm
        rw[←hm]at h;have A1:=A.box;have g1:=A.keep b4 _ f0 b3;have o1:=A45 7 out.length ob;have W:IntKind.i64.wrap ((k:Int)+1)=((k+1:Nat):Int):=by rw[A4 (by omega) (by omega)];omega
        have b9:(if(r.length:Int)<((k+1:Nat):Int)then(r.length:Int)else((k+1:Nat):Int))=((min (k+1) r.length:Nat):Int):=by split<;>omega
        by_cases d3:k<r.length
        · have c5:I3 r k=41:=by
            by_cases g:I3 r k=41
            · exact g
            · exact absurd ⟨d3,g⟩ hc
          have b7:decide ((k:Int)<r.length)=true:=D1b (by omega);have d4:(k:Int)<r.length:=by omega
          repeat' (first|with_reducible apply D1Z|simp only[go_sem,seval,b7,d4,f5,c5,A1,g1,o1,W,b9]|omega)
          exact A4L (ks:=out) rfl (A.out2 b3 _) (D21 (A.le2 a5 d2 g4 _) h)
        · have b7:decide ((k:Int)<r.length)=false:=D1c (by omega)
          repeat' simp only[go_sem,seval,b7,A1,g1,o1,W,b9]
          exact A4L (ks:=out) rfl (A.out2 b3 _) (D21 (A.le2 a5 d2 g4 _) h)
    · rw[if_neg p2]at h
      have q1: ¬I3 r 0=38:=fun g=>p2 (.inl (e7 ▸ g));have q2: ¬I3 r 0=124:=fun g=>p2 (.inr (a6 ▸ g));have wc:=fun(Q:D→Heap→Prop) (H:Heap)=>C4p (Q:=Q) (S r) (by rw[J3];omega) H;rw[Q7]at wc;have X:=(B5o r).symm;have c6:=A2T r;unfold A7k at h;by_cases w1:E8 r=j0
      · rw[if_pos w1]at h
        have Y:E8 r= [116,114,117,101]:=w1;rw[Y]at wc;have g2:r.take 4= [116,114,117,101]:=by rw[Y]at X;exact X
        have i4:4≤r.length:=by rw[Y]at c6;simp only[D1e,D1g]at c6;omega
        have w2: ¬([116,114,117,101]:List UInt8)= [102,97,108,115,101]:=by decide
        repeat' (first|with_reducible apply D1Z|simp only[go_sem,seval,e4,T,u,z,y,V,q1,q2,g2,U]|simp(disch:=first|omega|grind) only[B3]|(intro i;try simp only[A6]at i)|with_reducible refine wc _ _ ?_|omega)
        exact D4 (B1i (A1q 1 1 0 false D3)) (D21 (z8 I g4 (by assumption)) h)
      · rw[if_neg w1]at h
        have Y: ¬E8 r= [116,114,117,101]:=w1;by_cases w2:E8 r=flsB
        · rw[if_pos w2]at h
          have a0:E8 r= [102,97,108,115,101]:=w2;rw[a0]at wc;have g3:r.take 5= [102,97,108,115,101]:=by rw[a0]at X;exact X
          have i5:5≤r.length:=by rw[a0]at c6;simp only[D1e,D1g]at c6;omega
          have i1: ¬([102,97,108,115,101]:List UInt8)= [116,114,117,101]:=by decide
          repeat' (first|with_reducible apply D1Z|simp only[go_sem,seval,e4,T,u,z,y,V,q1,q2,g3,U,i1]|simp(disch:=first|omega|grind) only[B3]|(intro i;try simp only[A6]at i)|with_reducible refine wc _ _ ?_|omega)
          exact D4 (B1i (A1q 1 0 0 false D3)) (D21 (z8 I g4 (by assumption)) h)
        · rw[if_neg w2]at h
          have a0: ¬E8 r= [102,97,108,115,101]:=w2;have c0:Q4 (S (E8 r)) 0=I3 (E8 r) 0:=by rw[A3u,Q7]
          have i9:(E8 r).length≤r.length:=by omega
          cases p3:pre [63] (E8 r)with
          |true=>
            rw[p3]at h;simp only[if_true]at h
            obtain⟨J,r3,c7⟩: ∃J r3,E8 r=J::r3:=by
              cases hx:E8 r with
              |nil=>rw[hx]at p3;cases p3
              |cons J r3=>exact⟨J,r3,rfl⟩
            have q3:I3 (E8 r) 0=63:=by
              have:=C4o (c:=J) (r:=r3) 63;rw[←c7]at this;have this:(I3 (E8 r) 0=63)=(pre [63] (E8 r)=true):=this;rw[this];exact p3
            have O:(0:Int)<(E8 r).length:=by rw[c7];simp only[D1e];omega
            repeat' (first|with_reducible apply D1Z|simp only[go_sem,seval,e4,T,u,z,y,V,q1,q2,X,U,Y,a0,O,c0,q3]|with_reducible refine wc _ _ ?_|omega)
            exact D4 (B1i (A1q 3 0 0 false _)) (D21 (d0 _) h)
          |false=>
            rw[p3]at h;simp only[D1p,if_false]at h;obtain⟨⟨L,er⟩,g5⟩: ∃x,x=K2 (E8 r):=⟨_,rfl⟩
            have pc:=fun(Q:D→Heap→Prop) (H:Heap)=>B77 (Q:=Q) (S (E8 r)) (by rw[J3];omega) H;rw[Q7,←g5]at pc;rw[←g5]at h;simp only at h pc
            have d7:(0:Int)<(E8 r).length→¬I3 (E8 r) 0=63:=fun O g=>by
              obtain⟨J,r3,c7⟩: ∃J r3,E8 r=J::r3:=by
                cases hx:E8 r with
                |nil=>rw[hx]at O;simp at O
                |cons J r3=>exact⟨J,r3,rfl⟩
              have:=C4o (c:=J) (r:=r3) 63;rw[←c7]at this;have this:(I3 (E8 r) 0=63)=(pre [63] (E8 r)=true):=this;rw[this,p3]at g;cases g
            have i2: ∀K:Prop,(0:Int)<(E8 r).length→I3 (E8 r) 0=63→K:=fun K a b=>absurd b (d7 a);by_cases e0:er=0
            · subst e0
              simp only[if_true]at h;by_cases O:(0:Int)<(E8 r).length
              · have q3:=d7 O
                repeat' (first|with_reducible apply D1Z|simp only[go_sem,seval,e4,T,u,z,y,V,q1,q2,X,U,Y,a0,O,c0,q3]|simp(disch:=first|omega|grind) only[B3]|(intro i;try simp only[A6]at i)|with_reducible refine wc _ _ ?_|with_reducible refine pc _ _ ?_|omega)
                exact D4 (B1i (B29 2 0 L D3)) (D21 (z8 I g4 (by assumption)) h)
              · repeat' (first|with_reducible apply D1Z|simp only[go_sem,seval,e4,T,u,z,y,V,q1,q2,X,U,Y,a0,O]|simp(disch:=first|omega|grind) only[B3]|(intro i;try simp only[A6]at i)|with_reducible refine wc _ _ ?_|with_reducible refine pc _ _ ?_|omega)
                exact D4 (B1i (B29 2 0 L D3)) (D21 (z8 I g4 (by assumption)) h)
            · rw[if_neg e0]at h
              by_cases O:(0:Int)<(E8 r).length
              · have q3:=d7 O
                repeat' (first|with_reducible apply D1Z|simp only[go_sem,seval,e4,T,u,z,y,V,q1,q2,X,U,Y,a0,O,c0,q3,e0]|simp(disch:=first|omega|grind) only[B3]|(intro i;try simp only[A6]at i)|with_reducible refine wc _ _ ?_|with_reducible refine pc _ _ ?_|omega)
                exact D4 (U3 _) (D21 (z8 I g4 (by assumption)) h)
              · repeat' (first|with_reducible apply D1Z|simp only[go_sem,seval,e4,T,u,z,y,V,q1,q2,X,U,Y,a0,O,e0]|simp(disch:=first|omega|grind) only[B3]|(intro i;try simp only[A6]at i)|with_reducible refine wc _ _ ?_|with_reducible refine pc _ _ ?_|omega)
                exact D4 (U3 _) (D21 (z8 I g4 (by assumption)) h)
theorem C4s: ∀e,e≤60→RdC e:=by
 intro e
 induction e with
 |zero=>intro _;exact C4q
 |succ e d=>intro he;exact C4r e he (d (by omega))
theorem B5p{Q}(s:ByteArray)(H:Heap)(h:Q (.tuple [.agg (B9 (A7E (B s)).1),.int .i64 (A7E (B s)).2]) H):D8 30 [.str s] H Q:=by
 refine A8 [] A5 Tryz.func30 rfl ?_;simp only[go_sem,seval,Tryz.results30];have A:=M8 s;intro q j;have e2:(H.set q (.box [.int .i64 0,.int .i64 0,.nilsl,.int .i64 0,.bool false,.str ⟨#[]⟩,.nilsl])) q=some (.box [.int .i64 0,.int .i64 0,.nilsl,.int .i64 0,.bool false,.str ⟨#[]⟩,.nilsl]):=A0 _ _;have d:H.Le (H.set q (.box [.int .i64 0,.int .i64 0,.nilsl,.int .i64 0,.bool false,.str ⟨#[]⟩,.nilsl])):=A2 j;generalize H.set q (.box [.int .i64 0,.int .i64 0,.nilsl,.int .i64 0,.bool false,.str ⟨#[]⟩,.nilsl])=Bs at e2 d⊢;unfold A7E at h;by_cases hl:(B s).length > 20000
 ·rw[if_pos hl]at h;have m:(20000:Int)<s.size:=by omega
  repeat' (first|with_reducible apply D1Z|simp only[go_sem,seval,m,e2])
  exact D4 (U3 3) (D21 (by first|exact d|exact F3 d j) h)
 ·rw[if_neg hl]at h;have m: ¬(20000:Int)<s.size:=by omega
  have o: ∀(Q:D→Heap→Prop) (H:Heap),Q (.tuple [.agg (B9 (J1 60 (B s)).1),.int .i64 (J1 60 (B s)).2]) H→D8 72 [.str s,.int .i64 60] H Q:=fun Q H hq=>by
   have:=C4s 60 (by omega) Q (B s) (by omega) H hq;rw[S_B]at this;exact this
  obtain⟨h1,r⟩:=B1s 60 (B s) (by omega);obtain⟨⟨f,n⟩,C⟩: ∃x,x=J1 60 (B s):=⟨_,rfl⟩
  rw[←C]at h h1 r o;simp only at h h1 r o;have g:=fun(Q:D→Heap→Prop) (H:Heap)=>B1p (Q:=Q) f r.fit (.inl (by have:=r.wt;omega)) H;unfold okF at h;cases hv:E3 f with
  |false=>
   rw[if_neg (by rw[hv];simp)]at h;rw[hv]at g;simp only[D1p,if_false]at g;repeat' (first|with_reducible apply D1Z|simp only[go_sem,seval,m,e2]|simp(disch:=first|omega|grind) only[B3]|intro p|with_reducible refine o _ _ ?_|with_reducible refine g _ _ ?_)
   exact D4 (U3 30) (D21 (z8 d j (by assumption)) h)
  |true=>
   rw[hv]at g;simp only[if_true]at g;by_cases i:C8 f=B s
   ·rw[if_pos ⟨hv,i⟩]at h;rw[i,S_B]at g;repeat' (first|with_reducible apply D1Z|simp only[go_sem,seval,m,e2]|simp(disch:=first|omega|grind) only[B3]|intro p|with_reducible refine o _ _ ?_|with_reducible refine g _ _ ?_)
    exact D21 (z8 d j (by assumption)) h
   ·rw[if_neg (fun x=>i x.2)]at h;have u:(S (C8 f)=s)=False:=eq_false fun e=>i (by rw[←e,Q7]);have y:(s=S (C8 f))=False:=eq_false fun e=>i (by rw[e,Q7]);have z:(C8 f=B s)=False:=eq_false i;repeat' (first|with_reducible apply D1Z|simp only[go_sem,seval,m,e2,u,y,z]|simp(disch:=first|omega|grind) only[B3]|intro p|with_reducible refine o _ _ ?_|with_reducible refine g _ _ ?_)
    exact D4 (U3 30) (D21 (z8 d j (by assumption)) h)
end Go.Proofs.YtibphjonmikciaaGreatDoor
namespace Go.Fo
open Go Go.Av Go.Lexs Go.Lin
theorem dec_cases(s:ByteArray)(pos:Nat):((s.get! pos).toNat<128∧Utf8.decode s pos=((s.get! pos).toNat,1))∨(128≤(s.get! pos).toNat∧128≤(Utf8.decode s pos).1∧(Utf8.decode s pos).1≤1114111∧1≤(Utf8.decode s pos).2∧(∀k,1≤k→k<(Utf8.decode s pos).2→pos+k<s.size∧128≤(s.get! (pos+k)).toNat)):=by
 have hb: ∀k,(s.get! k).toNat<256:=fun k=>UInt8.toNat_lt _;by_cases h:(s.get! pos).toNat<128
 ·left;refine⟨h,?_⟩
  unfold Utf8.decode;simp only[Nat.add_zero,h,if_true]
 ·right
  have e:128≤(s.get! pos).toNat:=by omega
  have i:=hb pos;refine⟨e,?_⟩;unfold Utf8.decode Utf8.valid Utf8.runeError;simp only[Nat.add_zero,h,if_false];have j:=hb (pos+1);have m:=hb (pos+2);have o:=hb (pos+3);split
  ·rename_i g;simp only[D1m,beq_iff_eq,D1v]at g;split
   ·refine⟨by simp only[];omega,by simp only[];omega,by simp only[];omega,fun k h1 d=>?_⟩;simp only[]at d;have:k=1:=by omega
    subst this;omega
   ·refine⟨by decide,by decide,by decide,fun k h1 d=>?_⟩;simp only[]at d;omega
  ·split
   ·rename_i g;simp only[D1m,beq_iff_eq,D1v]at g;split
    ·rename_i q;refine⟨by simp only[D1m,D1v]at q;simp only[];omega,by simp only[];omega,by simp only[];omega,fun k h1 d=>?_⟩;simp only[]at d;rcases(by omega:k=1∨k=2)with rfl|rfl<;>omega
    ·refine⟨by decide,by decide,by decide,fun k h1 d=>?_⟩;simp only[]at d;omega
   ·split
    ·rename_i g;simp only[D1m,beq_iff_eq,D1v]at g;split
     ·rename_i q;simp only[D1m,D2w,D1v]at q;refine⟨by simp only[];omega,by simp only[];omega,by simp only[];omega,fun k h1 d=>?_⟩;simp only[]at d;rcases(by omega:k=1∨k=2∨k=3)with rfl|rfl|rfl<;>omega
     ·refine⟨by decide,by decide,by decide,fun k h1 d=>?_⟩;simp only[]at d;omega
    ·refine⟨by decide,by decide,by decide,fun k h1 d=>?_⟩;simp only[]at d;omega
theorem A7R{s:ByteArray}{k:Nat}(h:k<s.size):I3 (B s) k=((s.get! k).toNat:Int):=by
 obtain⟨a⟩:=s;have h:k<a.size:=h;unfold I3 B ByteArray.get!;simp[h]
theorem C4t(r:Int)(e:128≤r)(hv:Utf8.valid r=true): ∃n:Nat,(Utf8.encode r).size=n+2∧n≤2∧∀k,k<(Utf8.encode r).size→128≤((Utf8.encode r).get! k).toNat:=by
 unfold Utf8.encode;have hc: ∀m:Nat,m<256→(UInt8.ofNat m).toNat=m:=fun m h=>by rw[UInt8.toNat_ofNat'];exact D2a h
 have hr:128≤r.toNat:=by omega
 have d:r.toNat≤1114111:=by
  unfold Utf8.valid at hv;simp only[D1m,D2w,D1v]at hv;omega
 simp only[hv,if_true];rw[if_neg (by omega)];generalize r.toNat=c at hr d;split
 ·refine⟨0,rfl,by omega,fun k hk=>?_⟩;have hk:k<2:=hk;rcases(by omega:k=0∨k=1)with rfl|rfl
  ·show 128≤(UInt8.ofNat (192+c / 64)).toNat;rw[hc _ (by omega)];omega
  ·show 128≤(UInt8.ofNat (128+c % 64)).toNat;rw[hc _ (by omega)];omega
 ·split
  ·refine⟨1,rfl,by omega,fun k hk=>?_⟩;have hk:k<3:=hk;rcases(by omega:k=0∨k=1∨k=2)with rfl|rfl|rfl
   ·show 128≤(UInt8.ofNat (224+c / 4096)).toNat;rw[hc _ (by omega)];omega
   ·show 128≤(UInt8.ofNat (128+c / 64 % 64)).toNat;rw[hc _ (by omega)];omega
   ·show 128≤(UInt8.ofNat (128+c % 64)).toNat;rw[hc _ (by omega)];omega
  ·refine⟨2,rfl,by omega,fun k hk=>?_⟩;have hk:k<4:=hk;rcases(by omega:k=0∨k=1∨k=2∨k=3)with rfl|rfl|rfl|rfl
   ·show 128≤(UInt8.ofNat (240+c / 262144)).toNat;rw[hc _ (by omega)];omega
   ·show 128≤(UInt8.ofNat (128+c / 4096 % 64)).toNat;rw[hc _ (by omega)];omega
   ·show 128≤(UInt8.ofNat (128+c / 64 % 64)).toNat;rw[hc _ (by omega)];omega
   ·show 128≤(UInt8.ofNat (128+c % 64)).toNat;rw[hc _ (by omega)];omega
end Go.Fo
namespace Go.Proofs.YtibphjonmikciaaGreatDoor
open Go Go.Av Go.Lexs Go.Lin Go.Fo
attribute [local irreducible] ACalls Q4
theorem B1u{Q}(r:Int)(H:Heap)(h:Q (.bool (Utf8.valid r)) H):D8 212 [.int .i32 r] H Q:=by
 refine A8 [] A5 Tryz.func212 rfl ?_;simp only[go_sem,seval,Tryz.results212];unfold Utf8.valid at h;by_cases a:(0:Int)≤r
 ·by_cases b:r<55296
  ·repeat' (first|with_reducible apply D1Z|simp only[go_sem,seval,a,b])
   exact D22 (by simpa [a,b]using h)
  ·by_cases c:57343<r
   ·by_cases d:r≤1114111
    ·repeat' (first|with_reducible apply D1Z|simp only[go_sem,seval,a,b,c,d])
     exact D22 (by have:57344≤r:=(by omega);simpa [a,b,c,d,this]using h)
    ·repeat' (first|with_reducible apply D1Z|simp only[go_sem,seval,a,b,c,d])
     exact D22 (by simpa [a,b,c,d]using h)
   ·repeat' (first|with_reducible apply D1Z|simp only[go_sem,seval,a,b,c])
    exact D22 (by have: ¬57344≤r:=(by omega);simpa [a,b,c,this]using h)
 ·have b:r<55296:=by omega
  have c: ¬57343<r:=by omega
  repeat' (first|with_reducible apply D1Z|simp only[go_sem,seval,a,b,c])
  exact D22 (by have: ¬57344≤r:=(by omega);simpa [a,b,c,this]using h)
set_option maxHeartbeats 4000000 in
theorem A9r{Q}(r:Int)(C:128≤r)(h1:r≤1114111)(H:Heap)(h:Q (.int .i64 (-1)) H):D8 178 [.str ⟨#[44,41]⟩,.int .i32 r] H Q:=by
 refine A8 [] A5 Tryz.func178 rfl ?_;simp only[go_sem,seval,Tryz.results178];have z:(0:Int)≤r:=by omega
 have a1: ¬r<128:=by omega
 by_cases hr:r=65533
 ·subst hr;repeat' (first|with_reducible apply D1Z|simp only[go_sem,seval]|intro d)
  rename_i b;have hb:=d;clear d;refine C2 [175] (fun(k:Nat)=>[]) (fun(k:Nat)=>H.set b (.iter ⟨#[44,41]⟩ k)) (fun(k:Nat)=>k≤2) (fun(k:Nat)=>2-k) (0) (D1u _) (by simp only[go_sem,seval]) (D20 _) ?_;rintro G rfl k hk;simp only[go_sem,seval,A0];have L:(⟨#[44,41]⟩:ByteArray).size=2:=rfl;refine⟨fun e=>?_,fun e=>?_⟩
  ·have I:Utf8.decode ⟨#[44,41]⟩ k=(if k=0 then 44 else 41,1):=by
    rcases(by omega:k=0∨k=1)with rfl|rfl<;>rfl
   have g: ¬((if k=0 then 44 else 41:Nat):Int)=65533:=by split<;>decide
   rw[I];repeat' (first|with_reducible apply D1Z|simp only[go_sem,seval,g])
   exact C1 (k+1) (by omega) (by omega) (by simp only[go_sem,seval]) (D20 _)
  ·repeat' (first|with_reducible apply D1Z|simp only[go_sem,seval]|simp(disch:=omega) only[A4,C3]|intro d|omega)
   exact D21 (A2 hb) h
 ·have j:=fun(Q:D→Heap→Prop) (H:Heap)=>B1u (Q:=Q) r H;cases hv:Utf8.valid r with
  |false=>
   rw[hv]at j;repeat' (first|with_reducible apply D1Z|simp only[go_sem,seval,z,a1,hr]|with_reducible refine j _ _ ?_)
   exact D22 h
  |true=>
   rw[hv]at j;obtain⟨n,hn,J,m⟩:=C4t r C hv;have hw:IntKind.i64.wrap (((n+2:Nat):Int)-1)=(n:Int)+1:=by rw[A4 (by omega) (by omega)];omega
   have o:IntKind.i64.wrap (((Utf8.encode r).size:Int)-1)=(n:Int)+1:=by rw[hn];exact hw
   repeat' (first|with_reducible apply D1Z|simp only[go_sem,seval,z,a1,hr,o]|with_reducible refine j _ _ ?_)
   refine C2 [0,7,8] (fun(k:Nat)=>[(9,.int .i64 (n+1)),(10,.int .i64 0)]) (fun(k:Nat)=>H) (fun(k:Nat)=>True) (fun(k:Nat)=>0) (0) (trivial) (by simp only[go_sem,seval]) (D20 _) ?_;rintro G rfl k hk;by_cases p:n=0
   ·subst p;have q:((0:Nat):Int)+1=1:=rfl;have u:Q4 (Utf8.encode r) 1=I3 (B (Utf8.encode r)) 1:=A3t _ 1;have i:=A7R (s:=Utf8.encode r) (k:=1) (by omega);have:=m 1 (by omega);have g: ¬(41:Int)=I3 (B (Utf8.encode r)) 1:=by rw[i];omega
    have x:(1:Int)<(Utf8.encode r).size:=by omega
    have A:=fun(Q:D→Heap→Prop) (c:Int) (H:Heap)=>q9 (Q:=Q) (S []) c H;simp only[show∀c,Lib.indexByte (B (S [])) c= -1 from fun c=>by rw[Q7];rfl]at A;have y:Q4 ⟨#[44,41]⟩ 1=41:=(A3t _ 1).trans rfl;repeat' (first|with_reducible apply D1Z|simp only[go_sem,seval,q,u,y,g,x]|simp(disch:=omega) only[A4,C3]|with_reducible refine A _ _ _ ?_)
    exact D22 h
   ·have e: ¬(n:Int)+1<2:=by omega
    repeat' simp only[go_sem,seval,e]
    exact D22 h
open Go.RowKit in
theorem A9s{Q}(c:Nat)(hc:c<128)(H:Heap)(h:Q (.int .i64 (Lib.indexByte [44,41] c.toUInt8)) H):D8 178 [.str ⟨#[44,41]⟩,.int .i32 c] H Q:=
 H7 (by kernel_rfl) (fun w vs hl hr hs=>by
  obtain⟨a,b,rfl,d,hb⟩:=m0 hl hr;rw[d.str_inv,hb.int_inv];refine(Tryz.strings_IndexRune_ascii ⟨#[44,41]⟩ c w (by omega) (by omega)).mono fun e w' ⟨he,hw⟩=>?_;subst hw;exact⟨_,he,Below.refl _ _,.int _ _⟩) h
theorem B1v{Q}(n:Int)(H:Heap)(h:Q (.bool (decide (8<n))) H):D8 179 [.int .i64 n] H Q:=by
 refine A8 [] A5 Tryz.func179 rfl ?_;simp only[go_sem,seval,Tryz.results179];repeat' (first|with_reducible apply D1Z|simp only[go_sem,seval]|simp(disch:=omega) only[C3]|intro d|omega)
 exact D22 h
set_option maxHeartbeats 4000000 in
theorem B8m{r:List UInt8}(h8:r.length≤8):A5B r:=by
 intro Q H h;refine A8 [] A5 Tryz.func146 rfl ?_;simp only[go_sem,seval,Tryz.results146];have n1: ¬(⟨#[44,41]⟩:ByteArray)=⟨#[]⟩:=by decide
 have n2: ¬(8:Int)<r.length:=by omega
 have W:(⟨#[44,41]⟩:ByteArray).size=2:=rfl;have X:=fun(Q:D→Heap→Prop) (H:Heap)=>B1v (Q:=Q) r.length H;repeat' (first|simp only[go_sem,seval,n1,n2,W]|intro q|with_reducible refine X _ _ ?_)
 rename_i b;have hb:=q;clear q;have hsz:(S r).size=r.length:=J3 r;refine C2 [1,45] (fun(k:Nat)=>[]) (fun(k:Nat)=>H.set b (.iter (S r) k)) (fun(k:Nat)=>k≤r.length∧Lib.NoAny r [44,41] k) (fun(k:Nat)=>r.length-k) (0) (⟨D1u _,Lib.NoAny.zero _ _⟩) (by simp only[go_sem,seval]) (D20 _) ?_;rintro Ec rfl k ⟨hk,g⟩;simp only[go_sem,seval,A0];refine⟨fun G=>?_,fun G=>?_⟩
 ·have i:k<r.length:=by omega
  have u:(S r).get! k=r[k]:=by
   have e:=A7R (s:=S r) (k:=k) (by omega);rw[Q7,A4G i]at e;exact(UInt8.toNat_inj.1 (by omega)).symm
  have x:r[k]? =some r[k]:=D1q i;rcases dec_cases (S r) k with⟨hc,Y⟩|⟨hc,h1,U,V,C⟩
  ·rw[Y,u];rw[u]at hc;have d:=Lib.contains_iff_indexByte [44,41] r[k];have ec:(r[k].toNat).toUInt8=r[k]:=by simp
   have I:=fun(Q:D→Heap→Prop) (H:Heap)=>A9s (Q:=Q) r[k].toNat hc H;rw[ec]at I;cases m: [44,41].contains r[k]with
   |false=>
    rw[m]at d;have y: ¬(0:Int)≤Lib.indexByte [44,41] r[k]:=of_decide_eq_false d.symm;repeat' (first|simp only[go_sem,seval,y]|with_reducible refine I _ _ ?_)
    exact C1 (k+1) ⟨by omega,g.succ x m⟩ (by omega) (by simp only[go_sem,seval]) (D20 _)
   |true=>
    rw[m]at d;have z:(0:Int)≤Lib.indexByte [44,41] r[k]:=D1a d.symm;have e:tillI r=k:=Lib.indexAny_hit g x m;rw[e]at h;repeat' (first|simp only[go_sem,seval,z]|with_reducible refine I _ _ ?_)
    exact D21 (A2 hb) h
  ·generalize Utf8.decode (S r) k=p at h1 U V C⊢;obtain⟨c,n⟩:=p;simp only at h1 U V C⊢;have J:=fun(Q:D→Heap→Prop) (H:Heap)=>A9r (Q:=Q) c (by omega) (by omega) H;have L:k+n≤r.length:=by
    by_cases a0:n=1
    ·omega
    ·have:=(C (n-1) (by omega) (by omega)).1;omega
   have A:Lib.NoAny r [44,41] (k+n):=fun j b hj hb=>by
    by_cases M:j<k
    ·exact g j b M hb
    ·obtain⟨O,rfl⟩:=D1j.1 hb;have e:=A7R (s:=S r) (k:=j) (by omega);rw[Q7,A4G O]at e;have o:128≤r[j].toNat:=by
      by_cases T:j=k
      ·subst T;rw[u]at hc;exact hc
      ·have:=(C (j-k) (by omega) (by omega)).2;rw[show k+(j-k)=j by omega]at this;omega
     have q1:r[j]≠44:=fun e=>by rw[e]at o;revert o;decide
     have q2:r[j]≠41:=fun e=>by rw[e]at o;revert o;decide
     simp[q1,q2]
   repeat' (first|simp only[go_sem,seval]|with_reducible refine J _ _ ?_)
   exact C1 (k+n) ⟨L,A⟩ (by omega) (by simp only[go_sem,seval]) (D20 _)
 ·have i:k=r.length:=by omega
  rw[i]at g;have e:tillI r= -1:=Lib.indexAny_none g;rw[e]at h;repeat' (first|with_reducible apply D1Z|simp only[go_sem,seval]|simp(disch:=omega) only[C3]|intro q|omega)
  exact D21 (A2 hb) h
open Go.RowKit in
theorem C4u{r:List UInt8}(hr:r.length≤1000000):A5B r:=by
 by_cases i:r.length≤8
 ·exact B8m i
 ·intro Q H h;exact H7 (by kernel_rfl) (fun w vs hl d m=>by
   obtain⟨a,b,rfl,g,hb⟩:=m0 hl d;rw[g.str_inv,hb.str_inv];refine(Tryz.strings_IndexAny_long (zero_of_info (n:=256) (by kernel_rfl)).1 (S r) ⟨#[44,41]⟩ w (by decide) (by rw[J3];omega) (by rw[J3];omega) (by decide) (fun j b o=>by
    have hm:=D16 o;have key: ∀c∈(⟨#[44,41]⟩:ByteArray).data.toList,c.toNat<128:=by decide
    exact key b hm)).mono fun e w' ⟨he,hw⟩=>?_
   refine⟨_,he,?_,?_⟩
   ·rw[hw];exact((Below.refl _ _).alloc (D1t _) _).alloc (by simp) _
   ·rw[show (S r).data.toList=r from Q7 r];exact .int _ _) h
end Go.Proofs.YtibphjonmikciaaGreatDoor
namespace Go.Proofs.YtibphjonmikciaaGreatDoor
section
open Go Go.Shelf Go.RowKit
set_option maxHeartbeats 4000000 in
set_option maxRecDepth 100000 in
theorem C02(n:Nat)(hn:0<n)(hb:n*96≤140737488355328)(w:World):
  Calls Tryz.prog 190 #[.slice none 0 0,.int .i64 n] w fun e w'=>∃(cs:Array Value) (G:Nat),e= .returned (.slice (some ⟨w.heap.size,0,none⟩) 0 G)∧w'=w.drew.alloc (.cells cs 28)∧cs.size=G*7∧n≤G:=by
 obtain⟨i,m,y,hs,o⟩: ∃i,Tryz.prog.info? 28=some i∧i.zero=some (Value.agg #[.int .i64 0,.int .i64 0,.slice none 0 0,.int .i64 0,.bool false,.string ⟨#[]⟩,.slice none 0 0])∧i.size=7∧i.bytes=96:=by
  have h:(Tryz.prog.info? 28).map (fun i=>(i.zero,i.size,i.bytes))=some (some (Value.agg #[.int .i64 0,.int .i64 0,.slice none 0 0,.int .i64 0,.bool false,.string ⟨#[]⟩,.slice none 0 0]),7,96):=by kernel_rfl
  obtain⟨i,m,e⟩:=D1i.1 h;simp only[Prod.mk.injEq]at e;exact⟨i,m,e.1,e.2.1,e.2.2⟩
 have p:Tryz.prog.follows .mixedOrders=true:=by kernel_rfl
 have r:=Tryz.underlying26;have a1:=Tryz.isAgg26;have C:=Tryz.sizeOf26;have v1:=Tryz.zeroValue26;have I:=run_underlying r;have u:=Tryz.underlying3;have a3:=Tryz.isAgg3;have J:=Tryz.sizeOf3;have v3:=Tryz.zeroValue3;have L:=run_underlying u;have z:=Tryz.underlying4;have M:=Tryz.isAgg4;have O:=Tryz.sizeOf4;have v4:=Tryz.zeroValue4;have T:=run_underlying z;have A:=Tryz.underlying28;have U:=Tryz.isAgg28;have V:=Tryz.sizeOf28;have W:=Tryz.zeroValue28;have X:=run_underlying A;have h1: ¬((n:Int)<0):=by omega
 have Y:RowKit.wrap64 ((n:Int)-0)=(n:Int):=by unfold RowKit.wrap64;omega
 have h4:(n:Int) > 0:=by omega
 have d:=Lib.run_append_nil_zeros w 26 3 26 28 i _ .i64 .i64 r u m y n hn (by omega) (by omega) (by rw[o];omega);obtain⟨G,q⟩: ∃G,G=grownCap w n 0 28:=⟨_,rfl⟩
 have j:n≤grownCap w n 0 28:=grownCap_ge w _ _ _;have x:G≤9223372036854775807:=by
  have:=grownCap_le_maxLen w n 0 28 (by unfold maxLen;omega);rw[←q]at this;unfold maxLen at this;omega
 rw[←q]at d j;obtain⟨cs,g⟩: ∃cs,cs=Builtin.zeroCells (Value.agg #[.int .i64 0,.int .i64 0,.slice none 0 0,.int .i64 0,.bool false,.string ⟨#[]⟩,.slice none 0 0]).cells n++Builtin.zeroCells (Value.agg #[.int .i64 0,.int .i64 0,.slice none 0 0,.int .i64 0,.bool false,.string ⟨#[]⟩,.slice none 0 0]).cells (G-n):=⟨_,rfl⟩
 have hsz:cs.size=G*7:=by
  rw[g,Array.size_append,size_zeroCells,size_zeroCells];show n*7+(G-n)*7=G*7;omega
 rw[←g]at d;clear q g
 go_enter Tryz.func190,Tryz.ntmps190
 go_wp2_with (at_builtin;refine Lib.wpList_append_run _ rfl _ _ _ _ rfl _ _ rfl rfl _ _ d ?_)
 all_goals (go_ret;exact⟨cs,G,rfl,rfl,by first|exact hsz|simpa using hsz,j⟩)
end
section
open Go Go.Av Go.Lin Go.Fo
theorem B8n{Q}(H:Heap)(d:Q .nilsl H):D8 190 [.nilsl,.int .i64 0] H Q:=by
 refine A8 [] A5 Tryz.func190 rfl ?_;simp only[go_sem,seval,Tryz.results190];repeat' (first|with_reducible apply D1Z|simp only[go_sem,seval]|simp(disch:=omega) only[A4,C3])
 all_goals exact D22 d
theorem B4V{Q}(n:Nat)(hb:n*96≤140737488355328)(H:Heap)(o:n=0→Q .nilsl H)(h:n≠0→∀b,H b=none→Q (.vec b 7 0 0) (H.set b (.vec 7 []))):D8 190 [.nilsl,.int .i64 n] H Q:=by
 by_cases hn:n=0
 ·subst hn;exact B8n H (o rfl)
 ·refine⟨by kernel_rfl,fun w vs hl hr hs=>?_⟩;obtain⟨a,b,rfl,p,g⟩:=m0 hl hr;have q:a= .slice none 0 0:=by cases p;rfl
  rw[q,g.int_inv];refine(C02 n (by omega) hb w).mono ?_;rintro e w' ⟨cs,G,rfl,rfl,hsz,r⟩;have m:=hs.same (w':=w.drew) rfl (Ext.drewN H w 1);obtain⟨d,H',u,x,y,z,A⟩:=A0I (w:=w.drew) (K:=Q) m (sz:=7) (es:=[]) (vs:=cs) 28 0 G (by omega) ⟨by simp,fun i e he=>by simp at he,fun i e j d he=>by simp at he,fun i e j d he=>by simp at he⟩ (D1u _) hsz (fun b hb=>h hn b hb);exact⟨_,rfl,d,H',u,x,(Ext.drewN H w 1).trans (D24 _ _) y,z,A⟩
theorem A8e{Q}(l m:List Fm)(hb:(l.length+m.length)*96≤140737488355328)(H:Heap)(h:Q (.sl 7 (Rw B9 (l++m))) H):D8 153 [.sl 1 [[.sl 7 (Rw B9 l)],[.sl 7 (Rw B9 m)]]] H Q:=by
 refine A8 [] A5 Tryz.func153 rfl ?_;simp only[go_sem,seval,Tryz.results153];refine C2 [0,9,10] (fun(p:Nat×Int)=>[(11,.int .i64 p.1),(3,.int .i64 p.2)]) (fun(p:Nat×Int)=>H) (fun(p:Nat×Int)=>p.1≤2∧(p.1=0→p.2=0)∧(p.1=1→p.2=l.length)∧(p.1=2→p.2=(l.length:Int)+m.length)) (fun(p:Nat×Int)=>2-p.1) ((0,0)) (⟨by simp,by simp,by simp,by simp⟩) (by simp only[go_sem,seval]) (D20 _) ?_;rintro y rfl ⟨k,z⟩ ⟨j,d,g,i⟩;simp only at j d g i
 match k,j,d,g,i with
 |0,j,d,g,i=>
  have o:=d rfl;subst o;repeat' (first|with_reducible apply D1Z|simp only[go_sem,seval,D18]|simp(disch:=omega) only[A4,C3]|intro q|omega)
  exact C1 (1,(l.length:Int)) ⟨by simp,by simp,by simp,by simp⟩ (by simp) (by(try simp only[go_sem,seval])<;>(try simp(disch:=omega) [A4])) (D20 _)
 |1,j,d,g,i=>
  have o:=g rfl;subst o;repeat' (first|with_reducible apply D1Z|simp only[go_sem,seval,D18,D19]|simp(disch:=omega) only[A4,C3]|intro q|omega)
  exact C1 (2,(l.length:Int)+m.length) ⟨by simp,by simp,by simp,by simp⟩ (by simp) (by simp only[go_sem,seval]) (D20 _)
 |2,j,d,g,i=>
  have o:=i rfl;subst o;have A:(l.length:Int)+m.length=((l.length+m.length:Nat):Int):=by omega
  by_cases r:l.length+m.length=0
  ·have el:l= []:=D1x (by omega);have C:m= []:=D1x (by omega);subst el;subst C;repeat' simp only[go_sem,seval,A]
   refine B4V 0 (by omega) H (fun _=>?_) (fun e=>absurd rfl e);repeat' simp only[go_sem,seval]
   refine C2 [25,26] (fun(k:Nat)=>[(27,.int .i64 k),(6,.nilsl)]) (fun(k:Nat)=>H) (fun(k:Nat)=>k≤2) (fun(k:Nat)=>2-k) (0) (by omega) (by simp only[go_sem,seval]) (D20 _) ?_;rintro y rfl k hk
   match k,hk with
   |0,_=>
    repeat' (first|simp only[go_sem,seval,D18,A0u]|simp(disch:=omega) only[A4,C3])
    exact C1 1 (by omega) (by omega) (by simp only[go_sem,seval]) (D20 _)
   |1,_=>
    repeat' (first|simp only[go_sem,seval,D18,D19,A0u]|simp(disch:=omega) only[A4,C3])
    exact C1 2 (by omega) (by omega) (by simp only[go_sem,seval]) (D20 _)
   |2,_=>
    repeat' simp only[go_sem,seval]
    exact Fin.out (n:=0) (ob:=none) rfl rfl (D21 (D20 _) h)
   |k+3,hk=>omega
  repeat' simp only[go_sem,seval,A]
  refine B4V _ hb H (fun e=>absurd e r) fun _ b u=>?_;repeat' simp only[go_sem,seval]
  refine C2 [25,26] (fun(p:Nat×Nat×List Fm)=>[(27,.int .i64 p.1),(6,.vec p.2.1 7 0 p.2.2.length)]) (fun(p:Nat×Nat×List Fm)=>H.set p.2.1 (.vec 7 (Rw B9 p.2.2))) (fun(p:Nat×Nat×List Fm)=>p.1≤2∧H p.2.1=none∧(p.1=0→p.2.2= [])∧(p.1=1→p.2.2=l)∧(p.1=2→p.2.2=l++m)) (fun(p:Nat×Nat×List Fm)=>2-p.1) ((0,b,[])) (⟨by simp,u,by simp,by simp,by simp⟩) (by simp only[go_sem,seval]) (D20 _) ?_;rintro y rfl ⟨k,c,X⟩ ⟨j,hc,d,g,i⟩;simp only at j hc d g i
  match k,j,d,g,i with
  |0,j,d,g,i=>
   have o:=d rfl;subst o;repeat' (first|with_reducible apply D1Z|simp only[go_sem,seval,D18,E6 hc]|simp(disch:=omega) only[A4,C3]|intro q|omega)
   rename_i x;exact C1 (1,x,l) ⟨by simp,q,by simp,by simp,by simp⟩ (by simp) (by simp only[go_sem,seval]) (D20 _)
  |1,j,d,g,i=>
   have o:=(g rfl).symm;subst o;repeat' (first|with_reducible apply D1Z|simp only[go_sem,seval,D18,D19,E6 hc]|simp(disch:=omega) only[A4,C3]|intro q|omega)
   rename_i x;exact C1 (2,x,l++m) ⟨by simp,q,by simp,by simp,by simp⟩ (by simp) (by simp only[go_sem,seval,D1f]) (by simp only[];rw[←P1,D1o (by rw[D6];exact D1t _)];exact D20 _)
  |2,j,d,g,i=>
   have o:=i rfl;subst o;repeat' simp only[go_sem,seval]
   exact Fin.out (ob:=some c) (by rw[D6,D1f]) (A0 _ _) (D21 (by show H.Le ((H.set c _).del c);rw[E6 hc];exact D20 _) h)
end
end Go.Proofs.YtibphjonmikciaaGreatDoor
namespace Go.Av
theorem S5{P:Program}{f b n sz:Nat}{es:List (List D)}{ds:List D}{H0:Heap}{Q:D→Heap→Prop}(d:H0 b=none)(hn:n=es.length)(h:ACalls P f (.sl sz es::ds) H0 Q):ACalls P f (.vec b sz 0 n::ds) (H0.set b (.vec sz es)) Q:=
 V6 (A0 _ _) hn (by rw[E6 d];exact h)
theorem A94{P:Program}{f b n sz:Nat}{es:List (List D)}{a:D}{ds:List D}{H0:Heap}{Q:D→Heap→Prop}(d:H0 b=none)(hn:n=es.length)(h:ACalls P f (a:: .sl sz es::ds) H0 Q):ACalls P f (a:: .vec b sz 0 n::ds) (H0.set b (.vec sz es)) Q:=
 A0o (A0 _ _) hn (by rw[E6 d];exact h)
theorem A7Z{P:Program}{f m:Nat}{kvs:List (D×D)}{x:D}{ds:List D}{H:Heap}{Q:D→Heap→Prop}(hm:H m=some (.map kvs))(h:ACalls P f (.agg [x,.fm kvs]::ds) (H.del m) Q):ACalls P f (.agg [x,.map m]::ds) H Q:=by
 refine ACalls.shift (args':=.agg [x,.fm kvs]::ds) (fun w vs h1 p hs=>?_) h;have g:=E5 H m;refine⟨by simpa using h1,fun i d q=>?_,hs.less g,fun k hn=>g.held hn⟩
 match i with
 |0=>
  cases q;have j:=p 0 _ rfl;revert j;generalize vs.getD 0 undef=v1;intro j;cases j with
  |agg _ us o ho hr=>
   refine .agg _ us (by simpa using o) (fun i d' e=>?_) (fun i d' e=>?_)
   ·match i with
    |0=>exact ho 0 d' e
    |1=>cases e;rfl
    |i+2=>simp at e
   ·match i with
    |0=>exact(hr 0 d' e).less g
    |1=>
     cases e;exact B3r hs hm g (I0 (by simp[Heap.del])) (hr 1 _ rfl)
    |i+2=>simp at e
 |i+1=>exact(p (i+1) d (by simpa using q)).less g
end Go.Av
namespace Go.Proofs.YtibphjonmikciaaGreatDoor
open Go Go.Av Go.Lexs Go.Lin Go.Fo
attribute [local irreducible] ACalls Q4
theorem B3J{Q}(f:Fm)(H:Heap)(h:Q (.int .i64 (if f.op=6 then 1 else 0)) H):D8 193 [.agg (B9 f)] H Q:=by
 refine A8 [] A5 Tryz.func193 rfl ?_;simp only[go_sem,seval,Tryz.results193];by_cases c:f.op=6
 ·rw[if_pos c]at h;repeat' (first|simp only[go_sem,seval,c]|intro d)
  exact D21 (A2 (by assumption)) h
 ·rw[if_neg c]at h;repeat' (first|simp only[go_sem,seval,c]|intro d)
  exact D21 (A2 (by assumption)) h
theorem C4v{Q}(l:List Fm)(n:Int)(h1:n≤1)(g:D)(H:Heap)(h:Q (.tuple []) H):D8 242 [.sl 7 (Rw B9 l),.int .i64 0,.int .i64 n,g] H Q:=by
 refine A8 [(4,.rg),(6,.rd true)] A5 Tryz.func242 rfl ?_;simp only[go_sem,seval,Tryz.results242];have c: ¬1<n:=by omega
 repeat' simp(disch:=omega) only[A4,A3m,okRest_at,U1,A4c,A9,okRestE_at,A08,B2T,A86,B9t,A4y,C3,A2w,A0Y,i7,K4,A9P,V2]
 refine C2 [0,1,2,3] (fun(k:Nat)=>[(8,.int .i64 1)]) (fun(k:Nat)=>H) (fun(k:Nat)=>True) (fun(k:Nat)=>0) (0) (trivial) (by simp only[go_sem,seval]) (D20 _) ?_;rintro d rfl k _;repeat' simp only[go_sem,seval,c]
 exact D22 h
theorem B8o{Q}(l:List Fm)(hl:l.length≤1)(g:D)(H:Heap)(h:Q (.tuple []) H):D8 219 [.sl 7 (Rw B9 l),.int .i64 l.length,g] H Q:=by
 refine A8 [] A5 Tryz.func219 rfl ?_;simp only[go_sem,seval,Tryz.results219];have c: ¬(20:Int)≤l.length:=by omega
 have d: ¬(20:Int)<l.length:=by omega
 repeat' (first|with_reducible apply D1Z|simp only[go_sem,seval]|simp(disch:=omega) only[C3]|intro e|omega)
 refine C2 [0,1,2,6] (fun(k:Nat)=>[(7,.int .i64 0),(8,.int .i64 20)]) (fun(k:Nat)=>H) (fun(k:Nat)=>True) (fun(k:Nat)=>0) (0) (trivial) (by simp only[go_sem,seval]) (D20 _) ?_;rintro i rfl k _;repeat' (first|simp only[go_sem,seval,c]|with_reducible refine C4v l _ (by omega) _ _ ?_)
 refine C2 [0,1,2] (fun(k:Nat)=>[(6,.int .i64 20)]) (fun(k:Nat)=>H) (fun(k:Nat)=>True) (fun(k:Nat)=>0) (0) (trivial) (by simp only[go_sem,seval]) (D20 _) ?_;rintro i rfl k _;repeat' simp only[go_sem,seval,d]
 exact D22 h
theorem A4M{Q}(l:List Fm)(hl:l.length≤1)(g:D)(H:Heap)(h:Q (.tuple []) H):D8 191 [.sl 7 (Rw B9 l),g] H Q:=by
 refine A8 [] A5 Tryz.func191 rfl ?_;simp only[go_sem,seval,Tryz.results191];repeat' (first|simp only[go_sem,seval]|with_reducible refine B8o l hl _ _ ?_)
 exact D22 h
theorem B8p{Q}(c:List Fm)(hc:c≠[])(hl:c.length≤1000000)(H:Heap)(h: ∀b,H b=none→Q (.vec b 7 0 c.length) (H.set b (.vec 7 (Rw B9 c)))):D8 194 [.sl 7 (Rw B9 c)] H Q:=by
 have i:Rw B9 c≠[]:=fun e=>hc (D1x (by rw[←D6 (f:=B9),e];rfl));refine A8 [] A5 Tryz.func194 rfl ?_;simp only[go_sem,seval,Tryz.results194];have hq: ∀(x:Nat),L4 Tryz.prog .eql 26 (L3 (.tmp x)||L3 (.const (.slice none 0 0))) (.sl 7 (Rw B9 c)) .nilsl=some (.bool false):=fun x=>A6p i (by kernel_rfl);repeat' (first|with_reducible apply D1Z|simp only[go_sem,seval,hq]|intro d|omega)
 rename_i m j o;have g:=d;clear d;rw[E6 j]at g⊢;exact D22 (h _ g)
theorem B8q{Q}(cs c:List LinV)(m:D)(hm:(∃k,m= .fm k)∨∃b,m= .map b)(hb:(cs.length+c.length)*40≤140737488355328)(H:Heap)(h:Q (.agg [.sl 3 (Rw E4 (cs++c)),m]) H):D8 123 [.agg [.sl 3 (Rw E4 cs),m],.sl 3 (Rw E4 c)] H Q:=by
 refine A8 [] A5 Tryz.func123 rfl ?_;simp only[go_sem,seval,Tryz.results123];rcases hm with⟨k,rfl⟩|⟨b,rfl⟩
 ·repeat' (first|with_reducible apply D1Z|simp only[go_sem,seval]|simp(disch:=first|omega|grind) only[B3]|(intro d;try simp only[A6]at d))
  rename_i e g i j x;have hx:=d;clear d;refine S5 (es:=[[.sl 3 (Rw E4 cs)],[.sl 3 (Rw E4 c)]]) (A6.2 ⟨hx.1,A6.2 hx.2⟩) rfl ?_;refine A8J cs c hb _ ?_;repeat' (first|simp only[go_sem,seval]|simp(disch:=first|omega|grind) only[B3])
  exact D21 (by simp only[D7,C9,D0]at* <;>grind) h
 ·repeat' (first|with_reducible apply D1Z|simp only[go_sem,seval]|simp(disch:=first|omega|grind) only[B3]|(intro d;try simp only[A6]at d))
  rename_i e g i j x;have hx:=d;clear d;refine S5 (es:=[[.sl 3 (Rw E4 cs)],[.sl 3 (Rw E4 c)]]) (A6.2 ⟨hx.1,A6.2 hx.2⟩) rfl ?_;refine A8J cs c hb _ ?_;repeat' (first|simp only[go_sem,seval]|simp(disch:=first|omega|grind) only[B3])
  exact D21 (by simp only[D7,C9,D0]at* <;>grind) h
end Go.Proofs.YtibphjonmikciaaGreatDoor
namespace Go.Av
section
variable {P:Program} {ops:Array Oper}
structure EvC(ev:Operand→D):Prop where
 const: ∀v,ev (.const v)=D.ofValue v
 func: ∀f,ev (.func f)= .fn (.func f) [] []
def B1w(P:Program)(ops:Array Oper)(vals:Nat→D)(B:Heap)(E0:FEnv):Prop:=∀i o,ops[i]? =some o→o.guard=none∧∀F:FEnv,(∀j oj,ops[j]? =some oj→j∈K8 o→∀t,oj.dst=some t→F t=vals j)→(∀t,(ops.toList.all fun oj=>oj.dst != some t)=true→F t=E0 t)→
 D1 P F.ev B (Fin fun d H=>d=vals i∧H=B) o.op
structure C4w(ops:Array Oper)(vals:Nat→D)(E0:FEnv)(l:Array Bool)(F:FEnv):Prop where
 size:l.size=ops.size
 set: ∀j oj,ops[j]? =some oj→l.getD j false=true→∀t,oj.dst=some t→F t=vals j
 els: ∀t,(ops.toList.all fun oj=>oj.dst != some t)=true→F t=E0 t
theorem B5q{N:Nat}{w0:World}{H0 B:Heap}{vals:Nat→D}{E0:FEnv}{Q:Exit→Act→World→Prop}(hd: ∀o∈ops.toList,∀t,o.dst=some t→t<N)(C: ∀(i j:Nat) (oi oj:Oper),ops[i]? =some oi→ops[j]? =some oj→∀t,oi.dst=some t→oj.dst=some t→i=j)
  (G:B1w P ops vals B E0) (J: ∀l:Array Bool,l.size=ops.size→Region.ready .any ops l= []→∀i,i<ops.size→l.getD i false=true)
  (hQ: ∀F a w,StO N w0 H0 F B a w→C4w ops vals E0 (Array.replicate ops.size true) F→Q .normal a w): ∀(fuel:Nat) (g:Array Bool) (F:FEnv) (a:Act) (w:World),
  (g.toList.filter (!·)).length≤fuel→C4w ops vals E0 g F→StO N w0 H0 F B a w→Go.wpAny P .any ops Q fuel g a w:=by
 have fin: ∀(l:Array Bool) (F:FEnv) (a:Act) (w:World),C4w ops vals E0 l F→StO N w0 H0 F B a w→Region.ready .any ops l= []→Q .normal a w:=fun l F a w I hst O=>by
  refine hQ F a w hst ⟨by simp,fun j oj u _=>I.set j oj u (J l I.size O j (D1y.1 u).1),I.els⟩
 intro fuel
 induction fuel with
 |zero=>
  intro l F a w hc I hst;have hr:Region.ready .any ops l= []:=by
   cases hr:Region.ready .any ops l with
   |nil=>rfl
   |cons i r=>
    exfalso;obtain⟨h1,o,ho,_⟩:=A1r (by rw[hr];exact D1k .. :i∈Region.ready .any ops l);have hi:=(D1y.1 ho).1;have:=I.size;have hl:l.toList[i]? =some false:=by
     have:i<l.size:=by omega
     simp[this]at h1⊢;exact h1
    have hm:false∈l.toList.filter (!·):=List.mem_filter.2 ⟨D16 hl,rfl⟩;have:=List.length_pos_of_mem hm;omega
  exact⟨hr,fin l F a w I hst hr⟩
 |succ n T=>
  intro l F a w hc I hst;refine⟨fun O=>fin l F a w I hst O,fun i hi=>?_⟩;obtain⟨hu,o,ho,U⟩:=A1r hi;have a5:=(D1y.1 ho).1;have V:=I.size;have W:i<l.size:=by omega
  obtain⟨hg,X⟩:=G i o ho;have x:o∈ops.toList:=by rw[D2E];exact Array.mem_of_getElem? ho
  unfold Go.wpOp;split
  ·rename_i hn;rw[hn]at ho;cases ho
  ·rename_i o' L;rw[ho]at L;cases L;rw[if_pos (by simp[Region.wanted,hg])];refine .inl (opSem.wp ((O2 (o:=o) hst.sat hst.evR (X F (fun j oj u hm t q=>I.set j oj u (U j hm) t q) I.els)).mono fun v w' hp=>?_));obtain⟨d,H',hR,hS,hE,hF,hk⟩:=hp;unfold Fin at hk;obtain⟨H2,d2,M,Y,a0⟩:=hk;rw[Y,a0]at M;obtain⟨k1,k2,k3⟩:=M w' v hR hS;have a4:Ext H0 w0 w':=hst.ext.trans hst.frm hE;refine T _ (F.put o.dst (vals i)) _ _ ?_ ⟨by simpa using V,fun j oj u hm t q=>?_,fun t q=>?_⟩ ⟨?_,?_,fun s=>?_,k2,a4,fun k hk hn=>k3 k ((hst.frm.trans hst.ext.size hF) k hk hn)⟩
   ·have key: ∀(m:List Bool) (i:Nat),m[i]? =some false→((m.set i true).filter (!·)).length+1=(m.filter (!·)).length:=by
     intro m
     induction m with
     |nil=>intro i h;simp at h
     |cons b m T=>
      intro i h;cases i with
      |zero=>simp at h;subst h;simp
      |succ i=>
       have:=T i (by simpa using h);cases b<;>simp[List.set_cons_succ]<;>omega
    have hl:l.toList[i]? =some false:=by
     simp[W]at hu⊢;exact hu
    have:=key l.toList i hl;rw[Array.toList_setIfInBounds];omega
   ·by_cases e:i=j
    ·subst e;rw[ho]at u;cases u;rw[q];simp[FEnv.put]
    ·have y:o.dst≠some t:=fun e2=>e (C i j o oj ho u t e2 q);have hp:F.put o.dst (vals i) t=F t:=by
      cases z:o.dst with
      |none=>rfl
      |some s=>
       have:s≠t:=fun e=>y (by rw[z,e]);simp[FEnv.put,this]
     rw[hp];refine I.set j oj u ?_ t q;rw[getD_set_ne false e]at hm;exact hm
   ·have y:o.dst≠some t:=fun e=>by
     have:=D2A.1 q o x;rw[e]at this;simp at this
    have hp:F.put o.dst (vals i) t=F t:=by
     cases z:o.dst with
     |none=>rfl
     |some s=>
      have:s≠t:=fun e=>y (by rw[z,e]);simp[FEnv.put,this]
    rw[hp];exact I.els t q
   ·cases p:o.dst<;>simp[Act.put,hst.size]
   ·cases p:o.dst<;>simp[Act.put,hst.defers]
   ·have old: ∀s,R w' B (F s) (a.eval (.tmp s)):=fun s=>(hst.env s).mono hE (fun k hk hn=>k3 k (hF k hk hn));cases p:o.dst with
    |none=>exact old s
    |some t=>
     have q:=hd o x t p;simp only[FEnv.put];by_cases A:t=s
     ·subst A;rw[if_pos rfl];have:(a.put (some t) v).eval (.tmp t)=v:=by
       have h':t<a.tmps.size:=by rw[hst.size];exact q
       simp[Act.eval,Act.put,h']
      rw[this];exact k1
     ·rw[if_neg A];have:(a.put (some t) v).eval (.tmp s)=a.eval (.tmp s):=by
       simp[Act.eval,Act.put,D2D A]
      rw[this];exact old s
def C4x(ops:Array Oper):Bool:=(List.range ops.size).all fun i=>(List.range ops.size).all fun j=>i==j||((ops[i]?.bind (·.dst)).isNone||(ops[i]?.bind (·.dst)) != (ops[j]?.bind (·.dst)))
def B8r(ops:Array Oper):Bool:=(List.range ops.size).all fun i=>match ops[i]? with
 |some o=>(K8 o).all fun d=>decide (d<i)
 |none=>true
theorem C03(g:B8r ops=true): ∀l:Array Bool,l.size=ops.size→Region.ready .any ops l= []→∀i,i<ops.size→l.getD i false=true:=by
 intro l hs h i
 induction i using Nat.strongRecOn with
 |_ i j=>
  intro e;cases hc:l.getD i false with
  |true=>rfl
  |false=>
   exfalso;have ho:ops[i]? =some ops[i]:=Array.getElem?_eq_getElem e;have h1:=D2A.1 g i (List.mem_range.2 e);rw[ho]at h1;have m:l.getD i true=false:=by
    have:i<l.size:=by omega
    simp[this]at hc⊢;exact hc
   have:=A7I m ho fun d o=>by
    have:=D2A.1 h1 d o;simp only[D1v]at this;exact j d this (by omega)
   rw[h]at this;cases this
theorem A3e{f:Nat}{fn:Func}{c:Code}{id:Nat}{args:List D}{H:Heap}{Q:D→Heap→Prop}(hm:P.follows .mixedOrders=true)(hf:P.funcs[f]? =some fn)(hb:fn.body=some (.seq c (.seq (.region id ops true) .ret)))(L:A13 P f=true)(hn:args.length≤fn.ntmps)
  (i t:Nat) (M:fn.results= #[.tmp t]) (G:(ops[i]?.map (·.dst))=some (some t)) (O:O4 P [] fn.ntmps c=true) (hd:(ops.toList.all fun o=>match o.dst with|some t=>decide (t<fn.ntmps)|none=>true)=true) (u:C4x ops=true) (y:B8r ops=true)
  (h:wp P [] c (fun x E H'=>x= .normal∧∃vals:Nat→D,B1w P ops vals H' E.get∧Fin Q (vals i) H') (W9 0 args) H):ACalls P f args H Q:=by
 refine⟨L,fun w vs hl hR hs=>calls_of_wp hf hb ?_⟩;have hst:St fn.ntmps w H (W9 0 args) H {tmps:=vs++Array.replicate (fn.ntmps-vs.size) undef,defers:=[]} w:=by
  refine⟨by simp;omega,rfl,fun i=>?_,hs,D26 _ _,D24 _ _⟩;rw[A0L,if_pos (D1u _),Nat.sub_zero];cases G:args[i]? with
  |none=>exact .undef _
  |some d=>
   have a9:=(D1j.1 G).1;have:({tmps:=vs++Array.replicate (fn.ntmps-vs.size) undef,defers:=[]}:Act).eval (.tmp i)=vs.getD i undef:=by
    simp only[Act.eval];exact G2 (by omega)
   rw[this];exact hR i d G
 refine Go.wp_seq (Go.wp_mono (A0K hm c _ _ _ _ _ O h hst) fun e a w' he=>?_);cases e with
 |normal=>
  obtain⟨E,H',g,_,vals,hq,p⟩:=he;refine Go.wp_seq (wp_region_any hm ?_);have he:Ext H' w' {w' with drawn:=w'.drawn+1}:=Ext.drewN H' w' 1;have T:=g.sat.same (w':={w' with drawn:=w'.drawn+1}) rfl he;refine B5q (N:=fn.ntmps) (w0:=w) (H0:=H) (B:=H') (vals:=vals) (E0:=E.get) (fun o ho t ht=>?_) (fun i j oi oj z A t U V=>?_) hq (C03 y) (fun F a1 w1 m I=>?_) ops.size _ E.get a _ ?_ ⟨by simp,fun j oj hj hm=>?_,fun _ _=>rfl⟩ ⟨g.size,g.defers,fun i=>(g.env i).mono he (D24 _ _),T,g.ext.trans g.frm he,g.frm⟩
  ·have:=D2A.1 hd o ho;rw[ht]at this;simpa using this
  ·have W:=(D1y.1 z).1;have X:=(D1y.1 A).1;have:=D2A.1 (D2A.1 u i (List.mem_range.2 W)) j (List.mem_range.2 X);rw[z,A]at this;simp only[D13,U,V,Option.isNone_some,bne_self_eq_false,Bool.or_self,Bool.or_false,beq_iff_eq]at this;exact this
  ·obtain⟨o,ho,Y⟩:=D1i.1 G;have hF:F t=vals i:=I.set i o ho (by
    have:=(D1y.1 ho).1;simp[this]) t Y
   unfold Fin at p;obtain⟨H2,q,a0,p⟩:=p;have C:St fn.ntmps w H [(t,vals i)] H' a1 w1:=⟨m.size,m.defers,fun j=>by
    by_cases e:t=j
    ·subst e;have:Env.get [(t,vals i)] t=vals i:=by simp[Env.get]
     rw[this,←hF];exact m.env t
    ·have:Env.get [(t,vals i)] j= .undef:=by simp[Env.get,e]
     rw[this];exact .undef _,m.sat,m.ext,m.frm⟩
   refine Go.wp_mono (A0K (P:=P) (Z:=[]) hm .ret (A83 P fn.results.toList Q) _ _ _ _ rfl ⟨vals i,by rw[M];simp[A3J,A0f,Env.get],H2,q,a0,p⟩ C) fun x a w' he=>?_
   have fin: ∀(x:AX) (E:Env) (H':Heap) (a:Act) (w':World),(x= .normal∨x= .ret)→St fn.ntmps w H E H' a w'→A83 P fn.results.toList Q x E H'→
     a.defers= []∧∃v,(results fn a.tmps).run P w'= .ok v w'∧∃v',Ending.returned v= .returned v'∧Post H w Q v' w':=by
    intro x E H' a w' hx g hq;have a4: ∃r,A3J P fn.results.toList E H'=some r∧∃J q,Shift H' r J q∧Q q J:=by rcases hx with rfl|rfl<;>exact hq
    obtain⟨r,hr,J,q,a5,p⟩:=a4;obtain⟨v,hv,a6⟩:=A2i (P:=P) g hr;obtain⟨k1,k2,k3⟩:=a5 _ _ a6 g.sat;exact⟨g.defers,v,hv,v,rfl,q,J,k1,k2,g.ext,fun k hk hn=>k3 k (g.frm k hk hn),p⟩
   cases x with
   |normal=>obtain⟨E,H',g,hq⟩:=he;exact fin .normal E H' a w' (.inl rfl) g hq
   |ret=>obtain⟨E,H',g,hq⟩:=he;exact fin .ret E H' a w' (.inr rfl) g hq
   |exit id=>obtain⟨E,H',g,hq⟩:=he;exact hq.elim
   |_=>exact he.elim
  ·have: ∀n:Nat,((Array.replicate n false).toList.filter (!·)).length≤n:=fun n=>by simp
   exact this _
  ·rw[show (Array.replicate ops.size false).getD j false=false by simp[Array.getElem?_replicate];split<;>simp]at hm;cases hm
 |exit id=>obtain⟨E,H',g,hq⟩:=he;exact absurd hq.1 (by simp)
 |ret=>obtain⟨E,H',g,hq⟩:=he;exact absurd hq.1 (by simp)
 |_=>exact he.elim
end
end Go.Av
namespace Go.Proofs.YtibphjonmikciaaGreatDoor
open Go Go.Av
noncomputable def svOps:Array Oper:=match Tryz.f73.body with|some (.seq _ (.seq (.region _ ops _) _))=>ops|_=> #[]
theorem C4y{vals:Nat→D}{B:Av.Heap}{E0:FEnv}
  (x: ∀ev:Operand→D,EvC ev→Av.D1 Tryz.prog ev B (Av.Fin fun d H=>d=vals 0∧H=B) (Go.Op.makeMap 72 none))
  (h1: ∀ev:Operand→D,EvC ev→ev (.tmp 5)=vals 0→Av.D1 Tryz.prog ev B (Av.Fin fun d H=>d=vals 1∧H=B) (Go.Op.build 150 #[(1,(Go.Operand.tmp 5))]))
  (y: ∀ev:Operand→D,EvC ev→ev (.tmp 1)=E0 1→Av.D1 Tryz.prog ev B (Av.Fin fun d H=>d=vals 2∧H=B) (Go.Op.move (Go.Operand.tmp 1)))
  (z: ∀ev:Operand→D,EvC ev→ev (.tmp 6)=vals 1→ev (.tmp 7)=vals 2→Av.D1 Tryz.prog ev B (Av.Fin fun d H=>d=vals 3∧H=B) (Go.Op.call {callee:=(Go.Callee.value (Go.Operand.func 123)),args:= #[(Go.Operand.tmp 6),(Go.Operand.tmp 7)],argTypes:= #[150,110]}))
  (A: ∀ev:Operand→D,EvC ev→ev (.tmp 2)=E0 2→Av.D1 Tryz.prog ev B (Av.Fin fun d H=>d=vals 4∧H=B) (Go.Op.load 28 (Go.Operand.tmp 2)))
  (h5: ∀ev:Operand→D,EvC ev→ev (.tmp 9)=vals 4→Av.D1 Tryz.prog ev B (Av.Fin fun d H=>d=vals 5∧H=B) (Go.Op.call {callee:=(Go.Callee.value (Go.Operand.func 50)),args:= #[(Go.Operand.tmp 9),(Go.Operand.const (Go.Value.bool false))],argTypes:= #[28,4]}))
  (C: ∀ev:Operand→D,EvC ev→ev (.tmp 10)=vals 5→Av.D1 Tryz.prog ev B (Av.Fin fun d H=>d=vals 6∧H=B) (Go.Op.buildSlice 26 1 #[(0,(Go.Operand.tmp 10))]))
  (G: ∀ev:Operand→D,EvC ev→ev (.tmp 8)=vals 3→ev (.tmp 11)=vals 6→Av.D1 Tryz.prog ev B (Av.Fin fun d H=>d=vals 7∧H=B) (Go.Op.call {callee:=(Go.Callee.value (Go.Operand.func 124)),args:= #[(Go.Operand.tmp 8),(Go.Operand.tmp 11)],argTypes:= #[150,26]}))
  (I: ∀ev:Operand→D,EvC ev→ev (.tmp 12)=vals 7→Av.D1 Tryz.prog ev B (Av.Fin fun d H=>d=vals 8∧H=B) (Go.Op.assign (Go.Operand.tmp 12)))
  :B1w Tryz.prog svOps vals B E0:=by
 obtain⟨J,g,L,M,O,w0⟩: ∃o,svOps[0]? =some o∧o.dst=some 5∧o.op=(Go.Op.makeMap 72 none)∧o.guard=none∧(∀j∈([]:List Nat),j∈K8 o):=⟨_,rfl,rfl,rfl,rfl,by simp⟩
 obtain⟨T,o1,d1,U,V,W⟩: ∃o,svOps[1]? =some o∧o.dst=some 6∧o.op=(Go.Op.build 150 #[(1,(Go.Operand.tmp 5))])∧o.guard=none∧(∀j∈([0]:List Nat),j∈K8 o):=⟨_,rfl,rfl,rfl,rfl,by decide+kernel⟩
 obtain⟨X,o2,Y,p2,g2,w2⟩: ∃o,svOps[2]? =some o∧o.dst=some 7∧o.op=(Go.Op.move (Go.Operand.tmp 1))∧o.guard=none∧(∀j∈([]:List Nat),j∈K8 o):=⟨_,rfl,rfl,rfl,rfl,by simp⟩
 obtain⟨x3,o3,d3,p3,g3,h⟩: ∃o,svOps[3]? =some o∧o.dst=some 8∧o.op=(Go.Op.call {callee:=(Go.Callee.value (Go.Operand.func 123)),args:= #[(Go.Operand.tmp 6),(Go.Operand.tmp 7)],argTypes:= #[150,110]})∧o.guard=none∧(∀j∈([1,2]:List Nat),j∈K8 o):=⟨_,rfl,rfl,rfl,rfl,by decide+kernel⟩
 obtain⟨x4,m,d4,p4,g4,w4⟩: ∃o,svOps[4]? =some o∧o.dst=some 9∧o.op=(Go.Op.load 28 (Go.Operand.tmp 2))∧o.guard=none∧(∀j∈([]:List Nat),j∈K8 o):=⟨_,rfl,rfl,rfl,rfl,by simp⟩
 obtain⟨x5,p,d5,p5,g5,w5⟩: ∃o,svOps[5]? =some o∧o.dst=some 10∧o.op=(Go.Op.call {callee:=(Go.Callee.value (Go.Operand.func 50)),args:= #[(Go.Operand.tmp 9),(Go.Operand.const (Go.Value.bool false))],argTypes:= #[28,4]})∧o.guard=none∧(∀j∈([4]:List Nat),j∈K8 o):=⟨_,rfl,rfl,rfl,rfl,by decide+kernel⟩
 obtain⟨x6,q,d6,p6,g6,w6⟩: ∃o,svOps[6]? =some o∧o.dst=some 11∧o.op=(Go.Op.buildSlice 26 1 #[(0,(Go.Operand.tmp 10))])∧o.guard=none∧(∀j∈([5]:List Nat),j∈K8 o):=⟨_,rfl,rfl,rfl,rfl,by decide+kernel⟩
 obtain⟨x7,r,d7,p7,g7,u⟩: ∃o,svOps[7]? =some o∧o.dst=some 12∧o.op=(Go.Op.call {callee:=(Go.Callee.value (Go.Operand.func 124)),args:= #[(Go.Operand.tmp 8),(Go.Operand.tmp 11)],argTypes:= #[150,26]})∧o.guard=none∧(∀j∈([3,6]:List Nat),j∈K8 o):=⟨_,rfl,rfl,rfl,rfl,by decide+kernel⟩
 obtain⟨x8,o8,d8,p8,g8,w8⟩: ∃o,svOps[8]? =some o∧o.dst=some 4∧o.op=(Go.Op.assign (Go.Operand.tmp 12))∧o.guard=none∧(∀j∈([7]:List Nat),j∈K8 o):=⟨_,rfl,rfl,rfl,rfl,by decide+kernel⟩
 have hs:svOps.size=9:=by kernel_rfl
 have n1:(svOps.toList.all fun oj=>oj.dst != some 1)=true:=by kernel_rfl
 have n2:(svOps.toList.all fun oj=>oj.dst != some 2)=true:=by kernel_rfl
 generalize svOps=ops at*;intro i o ho;have hi:i<9:=by have:=(D1y.1 ho).1;omega
 match i,hi with
 |0,_=>
  rw[g]at ho;cases ho;exact⟨O,fun F e he=>by rw[M];exact x F.ev ⟨fun _=>rfl,fun _=>rfl⟩⟩
 |1,_=>
  rw[o1]at ho;cases ho;exact⟨V,fun F e he=>by rw[U];exact h1 F.ev ⟨fun _=>rfl,fun _=>rfl⟩ (e 0 J g (W 0 (by simp)) 5 L)⟩
 |2,_=>
  rw[o2]at ho;cases ho;exact⟨g2,fun F e he=>by rw[p2];exact y F.ev ⟨fun _=>rfl,fun _=>rfl⟩ (he 1 n1)⟩
 |3,_=>
  rw[o3]at ho;cases ho;exact⟨g3,fun F e he=>by rw[p3];exact z F.ev ⟨fun _=>rfl,fun _=>rfl⟩ (e 1 T o1 (h 1 (by simp)) 6 d1) (e 2 X o2 (h 2 (by simp)) 7 Y)⟩
 |4,_=>
  rw[m]at ho;cases ho;exact⟨g4,fun F e he=>by rw[p4];exact A F.ev ⟨fun _=>rfl,fun _=>rfl⟩ (he 2 n2)⟩
 |5,_=>
  rw[p]at ho;cases ho;exact⟨g5,fun F e he=>by rw[p5];exact h5 F.ev ⟨fun _=>rfl,fun _=>rfl⟩ (e 4 x4 m (w5 4 (by simp)) 9 d4)⟩
 |6,_=>
  rw[q]at ho;cases ho;exact⟨g6,fun F e he=>by rw[p6];exact C F.ev ⟨fun _=>rfl,fun _=>rfl⟩ (e 5 x5 p (w6 5 (by simp)) 10 d5)⟩
 |7,_=>
  rw[r]at ho;cases ho;exact⟨g7,fun F e he=>by rw[p7];exact G F.ev ⟨fun _=>rfl,fun _=>rfl⟩ (e 3 x3 o3 (u 3 (by simp)) 8 d3) (e 6 x6 q (u 6 (by simp)) 11 d6)⟩
 |8,_=>
  rw[o8]at ho;cases ho;exact⟨g8,fun F e he=>by rw[p8];exact I F.ev ⟨fun _=>rfl,fun _=>rfl⟩ (e 7 x7 r (w8 7 (by simp)) 12 d7)⟩
noncomputable def chOps:Array Oper:=match Tryz.f195.body with|some (.seq _ (.seq (.region _ ops _) _))=>ops|_=> #[]
theorem C4z{vals:Nat→D}{B:Av.Heap}{E0:FEnv}
  (r: ∀ev:Operand→D,EvC ev→ev (.tmp 1)=E0 1→Av.D1 Tryz.prog ev B (Av.Fin fun d H=>d=vals 0∧H=B) (Go.Op.load 150 (Go.Operand.tmp 1)))
  (h1: ∀ev:Operand→D,EvC ev→ev (.tmp 3)=E0 3→Av.D1 Tryz.prog ev B (Av.Fin fun d H=>d=vals 1∧H=B) (Go.Op.load 28 (Go.Operand.tmp 3)))
  (u: ∀ev:Operand→D,EvC ev→ev (.tmp 6)=vals 1→Av.D1 Tryz.prog ev B (Av.Fin fun d H=>d=vals 2∧H=B) (Go.Op.buildSlice 26 1 #[(0,(Go.Operand.tmp 6))]))
  (x: ∀ev:Operand→D,EvC ev→ev (.tmp 2)=E0 2→Av.D1 Tryz.prog ev B (Av.Fin fun d H=>d=vals 3∧H=B) (Go.Op.load 26 (Go.Operand.tmp 2)))
  (y: ∀ev:Operand→D,EvC ev→ev (.tmp 7)=vals 2→ev (.tmp 8)=vals 3→Av.D1 Tryz.prog ev B (Av.Fin fun d H=>d=vals 4∧H=B) (Go.Op.buildSlice 210 2 #[(0,(Go.Operand.tmp 7)),(1,(Go.Operand.tmp 8))]))
  (h5: ∀ev:Operand→D,EvC ev→ev (.tmp 9)=vals 4→Av.D1 Tryz.prog ev B (Av.Fin fun d H=>d=vals 5∧H=B) (Go.Op.call {callee:=(Go.Callee.value (Go.Operand.func 153)),args:= #[(Go.Operand.tmp 9)],argTypes:= #[210]}))
  (z: ∀ev:Operand→D,EvC ev→ev (.tmp 5)=vals 0→ev (.tmp 10)=vals 5→Av.D1 Tryz.prog ev B (Av.Fin fun d H=>d=vals 6∧H=B) (Go.Op.call {callee:=(Go.Callee.value (Go.Operand.func 124)),args:= #[(Go.Operand.tmp 5),(Go.Operand.tmp 10)],argTypes:= #[150,26]}))
  (A: ∀ev:Operand→D,EvC ev→ev (.tmp 11)=vals 6→Av.D1 Tryz.prog ev B (Av.Fin fun d H=>d=vals 7∧H=B) (Go.Op.assign (Go.Operand.tmp 11)))
  :B1w Tryz.prog chOps vals B E0:=by
 obtain⟨C,g,G,I,J,w0⟩: ∃o,chOps[0]? =some o∧o.dst=some 5∧o.op=(Go.Op.load 150 (Go.Operand.tmp 1))∧o.guard=none∧(∀j∈([]:List Nat),j∈K8 o):=⟨_,rfl,rfl,rfl,rfl,by simp⟩
 obtain⟨L,o1,d1,M,O,w1⟩: ∃o,chOps[1]? =some o∧o.dst=some 6∧o.op=(Go.Op.load 28 (Go.Operand.tmp 3))∧o.guard=none∧(∀j∈([]:List Nat),j∈K8 o):=⟨_,rfl,rfl,rfl,rfl,by simp⟩
 obtain⟨T,o2,U,V,W,X⟩: ∃o,chOps[2]? =some o∧o.dst=some 7∧o.op=(Go.Op.buildSlice 26 1 #[(0,(Go.Operand.tmp 6))])∧o.guard=none∧(∀j∈([1]:List Nat),j∈K8 o):=⟨_,rfl,rfl,rfl,rfl,by decide+kernel⟩
 obtain⟨Y,o3,d3,p3,g3,w3⟩: ∃o,chOps[3]? =some o∧o.dst=some 8∧o.op=(Go.Op.load 26 (Go.Operand.tmp 2))∧o.guard=none∧(∀j∈([]:List Nat),j∈K8 o):=⟨_,rfl,rfl,rfl,rfl,by simp⟩
 obtain⟨x4,h,d4,p4,g4,m⟩: ∃o,chOps[4]? =some o∧o.dst=some 9∧o.op=(Go.Op.buildSlice 210 2 #[(0,(Go.Operand.tmp 7)),(1,(Go.Operand.tmp 8))])∧o.guard=none∧(∀j∈([2,3]:List Nat),j∈K8 o):=⟨_,rfl,rfl,rfl,rfl,by decide+kernel⟩
 obtain⟨x5,p,d5,p5,g5,w5⟩: ∃o,chOps[5]? =some o∧o.dst=some 10∧o.op=(Go.Op.call {callee:=(Go.Callee.value (Go.Operand.func 153)),args:= #[(Go.Operand.tmp 9)],argTypes:= #[210]})∧o.guard=none∧(∀j∈([4]:List Nat),j∈K8 o):=⟨_,rfl,rfl,rfl,rfl,by decide+kernel⟩
 obtain⟨x6,q,d6,p6,g6,w6⟩: ∃o,chOps[6]? =some o∧o.dst=some 11∧o.op=(Go.Op.call {callee:=(Go.Callee.value (Go.Operand.func 124)),args:= #[(Go.Operand.tmp 5),(Go.Operand.tmp 10)],argTypes:= #[150,26]})∧o.guard=none∧(∀j∈([0,5]:List Nat),j∈K8 o):=⟨_,rfl,rfl,rfl,rfl,by decide+kernel⟩
 obtain⟨x7,o7,d7,p7,g7,w7⟩: ∃o,chOps[7]? =some o∧o.dst=some 4∧o.op=(Go.Op.assign (Go.Operand.tmp 11))∧o.guard=none∧(∀j∈([6]:List Nat),j∈K8 o):=⟨_,rfl,rfl,rfl,rfl,by decide+kernel⟩
 have hs:chOps.size=8:=by kernel_rfl
 have n1:(chOps.toList.all fun oj=>oj.dst != some 1)=true:=by kernel_rfl
 have n2:(chOps.toList.all fun oj=>oj.dst != some 2)=true:=by kernel_rfl
 have n3:(chOps.toList.all fun oj=>oj.dst != some 3)=true:=by kernel_rfl
 generalize chOps=ops at*;intro i o ho;have hi:i<8:=by have:=(D1y.1 ho).1;omega
 match i,hi with
 |0,_=>
  rw[g]at ho;cases ho;exact⟨J,fun F e he=>by rw[I];exact r F.ev ⟨fun _=>rfl,fun _=>rfl⟩ (he 1 n1)⟩
 |1,_=>
  rw[o1]at ho;cases ho;exact⟨O,fun F e he=>by rw[M];exact h1 F.ev ⟨fun _=>rfl,fun _=>rfl⟩ (he 3 n3)⟩
 |2,_=>
  rw[o2]at ho;cases ho;exact⟨W,fun F e he=>by rw[V];exact u F.ev ⟨fun _=>rfl,fun _=>rfl⟩ (e 1 L o1 (X 1 (by simp)) 6 d1)⟩
 |3,_=>
  rw[o3]at ho;cases ho;exact⟨g3,fun F e he=>by rw[p3];exact x F.ev ⟨fun _=>rfl,fun _=>rfl⟩ (he 2 n2)⟩
 |4,_=>
  rw[h]at ho;cases ho;exact⟨g4,fun F e he=>by rw[p4];exact y F.ev ⟨fun _=>rfl,fun _=>rfl⟩ (e 2 T o2 (m 2 (by simp)) 7 U) (e 3 Y o3 (m 3 (by simp)) 8 d3)⟩
 |5,_=>
  rw[p]at ho;cases ho;exact⟨g5,fun F e he=>by rw[p5];exact h5 F.ev ⟨fun _=>rfl,fun _=>rfl⟩ (e 4 x4 h (w5 4 (by simp)) 9 d4)⟩
 |6,_=>
  rw[q]at ho;cases ho;exact⟨g6,fun F e he=>by rw[p6];exact z F.ev ⟨fun _=>rfl,fun _=>rfl⟩ (e 0 C g (w6 0 (by simp)) 5 G) (e 5 x5 p (w6 5 (by simp)) 10 d5)⟩
 |7,_=>
  rw[o7]at ho;cases ho;exact⟨g7,fun F e he=>by rw[p7];exact A F.ev ⟨fun _=>rfl,fun _=>rfl⟩ (e 6 x6 q (w7 6 (by simp)) 11 d6)⟩
noncomputable def foOps:Array Oper:=match Tryz.f84.body with|some (.seq _ (.seq (.region _ ops _) _))=>ops|_=> #[]
theorem C40{vals:Nat→D}{B:Av.Heap}{E0:FEnv}
  (r: ∀ev:Operand→D,EvC ev→ev (.tmp 2)=E0 2→Av.D1 Tryz.prog ev B (Av.Fin fun d H=>d=vals 0∧H=B) (Go.Op.load 28 (Go.Operand.tmp 2)))
  (h1: ∀ev:Operand→D,EvC ev→ev (.tmp 3)=E0 3→Av.D1 Tryz.prog ev B (Av.Fin fun d H=>d=vals 1∧H=B) (Go.Op.load 28 (Go.Operand.tmp 3)))
  (u: ∀ev:Operand→D,EvC ev→ev (.tmp 6)=vals 1→Av.D1 Tryz.prog ev B (Av.Fin fun d H=>d=vals 2∧H=B) (Go.Op.call {callee:=(Go.Callee.value (Go.Operand.func 50)),args:= #[(Go.Operand.tmp 6),(Go.Operand.const (Go.Value.bool true))],argTypes:= #[28,4]}))
  (x: ∀ev:Operand→D,EvC ev→ev (.tmp 5)=vals 0→ev (.tmp 7)=vals 2→Av.D1 Tryz.prog ev B (Av.Fin fun d H=>d=vals 3∧H=B) (Go.Op.buildSlice 26 2 #[(0,(Go.Operand.tmp 5)),(1,(Go.Operand.tmp 7))]))
  (y: ∀ev:Operand→D,EvC ev→ev (.tmp 8)=vals 3→Av.D1 Tryz.prog ev B (Av.Fin fun d H=>d=vals 4∧H=B) (Go.Op.build 28 #[(0,(Go.Operand.const (Go.Value.int Go.IntKind.i64 5))),(4,(Go.Operand.tmp 8))]))
  (h5: ∀ev:Operand→D,EvC ev→ev (.tmp 9)=vals 4→Av.D1 Tryz.prog ev B (Av.Fin fun d H=>d=vals 5∧H=B) (Go.Op.call {callee:=(Go.Callee.value (Go.Operand.func 73)),args:= #[(Go.Operand.tmp 9),(Go.Operand.const (Go.Value.slice none 0 0))],argTypes:= #[28,110]}))
  (z: ∀ev:Operand→D,EvC ev→ev (.tmp 10)=vals 5→Av.D1 Tryz.prog ev B (Av.Fin fun d H=>d=vals 6∧H=B) (Go.Op.unOp Go.UnOp.not 4 (Go.Operand.tmp 10)))
  (A: ∀ev:Operand→D,EvC ev→ev (.tmp 11)=vals 6→Av.D1 Tryz.prog ev B (Av.Fin fun d H=>d=vals 7∧H=B) (Go.Op.assign (Go.Operand.tmp 11)))
  :B1w Tryz.prog foOps vals B E0:=by
 obtain⟨C,g,G,I,J,w0⟩: ∃o,foOps[0]? =some o∧o.dst=some 5∧o.op=(Go.Op.load 28 (Go.Operand.tmp 2))∧o.guard=none∧(∀j∈([]:List Nat),j∈K8 o):=⟨_,rfl,rfl,rfl,rfl,by simp⟩
 obtain⟨L,o1,d1,M,O,w1⟩: ∃o,foOps[1]? =some o∧o.dst=some 6∧o.op=(Go.Op.load 28 (Go.Operand.tmp 3))∧o.guard=none∧(∀j∈([]:List Nat),j∈K8 o):=⟨_,rfl,rfl,rfl,rfl,by simp⟩
 obtain⟨T,o2,U,V,W,X⟩: ∃o,foOps[2]? =some o∧o.dst=some 7∧o.op=(Go.Op.call {callee:=(Go.Callee.value (Go.Operand.func 50)),args:= #[(Go.Operand.tmp 6),(Go.Operand.const (Go.Value.bool true))],argTypes:= #[28,4]})∧o.guard=none∧(∀j∈([1]:List Nat),j∈K8 o):=⟨_,rfl,rfl,rfl,rfl,by decide+kernel⟩
 obtain⟨Y,o3,d3,p3,g3,h⟩: ∃o,foOps[3]? =some o∧o.dst=some 8∧o.op=(Go.Op.buildSlice 26 2 #[(0,(Go.Operand.tmp 5)),(1,(Go.Operand.tmp 7))])∧o.guard=none∧(∀j∈([0,2]:List Nat),j∈K8 o):=⟨_,rfl,rfl,rfl,rfl,by decide+kernel⟩
 obtain⟨x4,m,d4,p4,g4,w4⟩: ∃o,foOps[4]? =some o∧o.dst=some 9∧o.op=(Go.Op.build 28 #[(0,(Go.Operand.const (Go.Value.int Go.IntKind.i64 5))),(4,(Go.Operand.tmp 8))])∧o.guard=none∧(∀j∈([3]:List Nat),j∈K8 o):=⟨_,rfl,rfl,rfl,rfl,by decide+kernel⟩
 obtain⟨x5,p,d5,p5,g5,w5⟩: ∃o,foOps[5]? =some o∧o.dst=some 10∧o.op=(Go.Op.call {callee:=(Go.Callee.value (Go.Operand.func 73)),args:= #[(Go.Operand.tmp 9),(Go.Operand.const (Go.Value.slice none 0 0))],argTypes:= #[28,110]})∧o.guard=none∧(∀j∈([4]:List Nat),j∈K8 o):=⟨_,rfl,rfl,rfl,rfl,by decide+kernel⟩
 obtain⟨x6,q,d6,p6,g6,w6⟩: ∃o,foOps[6]? =some o∧o.dst=some 11∧o.op=(Go.Op.unOp Go.UnOp.not 4 (Go.Operand.tmp 10))∧o.guard=none∧(∀j∈([5]:List Nat),j∈K8 o):=⟨_,rfl,rfl,rfl,rfl,by decide+kernel⟩
 obtain⟨x7,o7,d7,p7,g7,w7⟩: ∃o,foOps[7]? =some o∧o.dst=some 4∧o.op=(Go.Op.assign (Go.Operand.tmp 11))∧o.guard=none∧(∀j∈([6]:List Nat),j∈K8 o):=⟨_,rfl,rfl,rfl,rfl,by decide+kernel⟩
 have hs:foOps.size=8:=by kernel_rfl
 have n2:(foOps.toList.all fun oj=>oj.dst != some 2)=true:=by kernel_rfl
 have n3:(foOps.toList.all fun oj=>oj.dst != some 3)=true:=by kernel_rfl
 generalize foOps=ops at*;intro i o ho;have hi:i<8:=by have:=(D1y.1 ho).1;omega
 match i,hi with
 |0,_=>
  rw[g]at ho;cases ho;exact⟨J,fun F e he=>by rw[I];exact r F.ev ⟨fun _=>rfl,fun _=>rfl⟩ (he 2 n2)⟩
 |1,_=>
  rw[o1]at ho;cases ho;exact⟨O,fun F e he=>by rw[M];exact h1 F.ev ⟨fun _=>rfl,fun _=>rfl⟩ (he 3 n3)⟩
 |2,_=>
  rw[o2]at ho;cases ho;exact⟨W,fun F e he=>by rw[V];exact u F.ev ⟨fun _=>rfl,fun _=>rfl⟩ (e 1 L o1 (X 1 (by simp)) 6 d1)⟩
 |3,_=>
  rw[o3]at ho;cases ho;exact⟨g3,fun F e he=>by rw[p3];exact x F.ev ⟨fun _=>rfl,fun _=>rfl⟩ (e 0 C g (h 0 (by simp)) 5 G) (e 2 T o2 (h 2 (by simp)) 7 U)⟩
 |4,_=>
  rw[m]at ho;cases ho;exact⟨g4,fun F e he=>by rw[p4];exact y F.ev ⟨fun _=>rfl,fun _=>rfl⟩ (e 3 Y o3 (w4 3 (by simp)) 8 d3)⟩
 |5,_=>
  rw[p]at ho;cases ho;exact⟨g5,fun F e he=>by rw[p5];exact h5 F.ev ⟨fun _=>rfl,fun _=>rfl⟩ (e 4 x4 m (w5 4 (by simp)) 9 d4)⟩
 |6,_=>
  rw[q]at ho;cases ho;exact⟨g6,fun F e he=>by rw[p6];exact z F.ev ⟨fun _=>rfl,fun _=>rfl⟩ (e 5 x5 p (w6 5 (by simp)) 10 d5)⟩
 |7,_=>
  rw[o7]at ho;cases ho;exact⟨g7,fun F e he=>by rw[p7];exact A F.ev ⟨fun _=>rfl,fun _=>rfl⟩ (e 6 x6 q (w7 6 (by simp)) 11 d6)⟩
end Go.Proofs.YtibphjonmikciaaGreatDoor
namespace Go.Proofs.YtibphjonmikciaaGreatDoor
open Go Go.Shelf Go.RowKit Go.Maps
set_option maxHeartbeats 2000000 in
set_option maxRecDepth 100000 in
theorem A3A(b:Nat)(es:Array MapEntry)(d:Nat)(w:World)(hb:w.heap[b]? =some (.map es d)):
  Calls Tryz.prog 125 #[.map (some b)] w fun e w'=>e= .returned (.map (some w.heap.size))∧w'=w.alloc (.map es d):=by
 have h:Tryz.prog.follows .mixedOrders=true:=by kernel_rfl
 have u:=Tryz.underlying4;have x:=Tryz.isAgg4;have y:=Tryz.sizeOf4;have v4:=Tryz.zeroValue4;have g:=Tryz.underlying72;have i:=Tryz.isAgg72;have j:=Tryz.sizeOf72;have m:=Tryz.zeroValue72;have o:=Tryz.underlying20;have p:=Tryz.isAgg20;have q:=Tryz.sizeOf20;have r:=Tryz.zeroValue20;have hq:=fun w=>run_eql_map_nil_sl (P:=Tryz.prog) w 72 _ _ (some b) g
 go_enter Tryz.func125,Tryz.ntmps125
 go_wp2
 rw[run_callFunc_extern Tryz.func156 (by kernel_rfl) (by kernel_rfl) (by kernel_rfl) (e:=Extern.MapsClone.clone) (by kernel_rfl),run_maps_clone_sl w 72 hb];simp only[Result.andThen];rw[Oper.upon_value]
 go_wp2
 rw[run_typeAssert_map_sl _ 72 20 _ _ _ g];simp only[Result.andThen];rw[Oper.upon_value]
 go_wp2
 go_ret
 exact⟨rfl,rfl⟩
open Go Go.Av
theorem A1u{Q}(kvs:List (D×D))(H:Av.Heap)(h: ∀b,H b=none→Q (.map b) (H.set b (.map kvs))):D8 125 [.fm kvs] H Q:=by
 refine⟨by kernel_rfl,fun w vs hl hr hs=>?_⟩;obtain⟨a,rfl,m⟩:=A2C hl hr;cases m with
 |fm _ b es ck hb hn hst hlen hk g j=>
  refine(A3A b es ck w hb).mono ?_;rintro e w' ⟨rfl,rfl⟩;have he:=Ext.alloc H w (.map es ck);have d:=O0 (H:=H) (D1t w.heap.size) (.map kvs);exact⟨_,rfl,.map w.heap.size,H.set w.heap.size (.map kvs),.map _,hs.update he d (fun k hk _=>Go.RowKit.Below.heap_alloc _ _ _ hk) ⟨es,ck,M7 w _,hst,hlen,fun i p hp=>⟨hk i p hp,(g i p hp).mono he d,(j i p hp).mono he d⟩⟩,he,d,h _ (hs.fresh (D1t _))⟩
theorem A3B{Q}(m:Nat)(kvs:List (D×D))(H:Av.Heap)(hm:H m=some (.map kvs))(h: ∀b,H b=none→Q (.map b) (H.set b (.map kvs))):D8 125 [.map m] H Q:=by
 refine⟨by kernel_rfl,fun w vs hl hr hs=>?_⟩;obtain⟨a,rfl,j⟩:=A2C hl hr;cases j;obtain⟨es,ck,hb,hst,hlen,d⟩:=hs m _ hm;refine(A3A m es ck w hb).mono ?_;rintro e w' ⟨rfl,rfl⟩;have he:=Ext.alloc H w (.map es ck);have g:=O0 (H:=H) (D1t w.heap.size) (.map kvs);exact⟨_,rfl,.map w.heap.size,H.set w.heap.size (.map kvs),.map _,hs.update he g (fun k hk _=>Go.RowKit.Below.heap_alloc _ _ _ hk) ⟨es,ck,M7 w _,hst,hlen,fun i p hp=>⟨(d i p hp).1,(d i p hp).2.1.mono he g,(d i p hp).2.2.mono he g⟩⟩,he,g,h _ (hs.fresh (D1t _))⟩
end Go.Proofs.YtibphjonmikciaaGreatDoor
namespace Go.Fo
open Go Go.Av Go.Lexs Go.Lin
abbrev BS:=List (ByteArray×Bool)
def bsC(bs:BS):List (D×D):=bs.map fun p=>(.str p.1,.bool p.2)
def A9t:BS→ByteArray→Option Bool
 | [],_=>none
 |p::l,s=>if s=p.1 then some p.2 else A9t l s
def A1v:BS→ByteArray→Bool→BS
 | [],s,v=>[(s,v)]
 |p::l,s,v=>if s=p.1 then(s,v)::l else p::A1v l s v
theorem find_bsC(s:ByteArray): ∀(bs:BS) (i:Nat),(A9t bs s=none∧Q1 (.one .str) (.str s) (bsC bs) i=some none∧∀v,A1v bs s v=bs++[(s,v)])∨∃j,∃b,j<bs.length∧A9t bs s=some b∧Q1 (.one .str) (.str s) (bsC bs) i=some (some (i+j,.bool b))∧∀v,A1v bs s v=bs.set j (s,v)
 | [],i=>.inl ⟨rfl,rfl,fun _=>rfl⟩
 |(t,x)::l,i=>by
  have e:A5L (.one .str) (.str s) (.str t)=some (decide (s=t)):=by
   rw[A5L,V9]
   congr 1
   rw[Bool.eq_iff_iff,beq_iff_eq,D1v];exact⟨fun g=>N7 g,fun g=>by rw[g]⟩
  rw[show bsC ((t,x)::l)=(.str t,.bool x)::bsC l from rfl,Q1];simp only[e,D13,D1v,A9t,A1v];by_cases c:s=t
  ·subst c;rw[if_pos rfl,if_pos rfl];exact .inr ⟨0,x,by simp,rfl,rfl,fun v=>by rw[if_pos rfl];rfl⟩
  ·rw[if_neg c,if_neg c];rcases find_bsC s l (i+1)with⟨h1,d,h⟩|⟨j,b,h1,d,h,m⟩
   ·exact .inl ⟨h1,d,fun v=>by rw[if_neg c,h];rfl⟩
   ·exact .inr ⟨j+1,b,by simpa using h1,d,by rw[h];congr 3;omega,fun v=>by rw[if_neg c,m];rfl⟩
theorem C04(s:ByteArray)(v:Bool)(bs:BS):(Q1 (.one .str) (.str s) (bsC bs) 0).map (fun r=>A6U (bsC bs) (.str s) (.bool v) r)=some (bsC (A1v bs s v)):=by
 rcases find_bsC s bs 0 with⟨h1,e,d⟩|⟨j,b,h1,e,d,g⟩
 ·rw[e,d];show some (bsC bs++[(.str s,.bool v)])=_;unfold bsC;rw[D2Z];rfl
 ·rw[d,g];show some ((bsC bs).set (0+j) (.str s,.bool v))=_;unfold bsC;rw[Nat.zero_add,List.map_set]
theorem A4N{H:Heap}{b:Nat}(s:ByteArray)(v:Bool)(bs:BS):(Q1 (.one .str) (.str s) (bsC bs) 0).map (fun r=>H.set b (.map (A6U (bsC bs) (.str s) (.bool v) r)))=some (H.set b (.map (bsC (A1v bs s v)))):=by
 have:=congrArg (Option.map fun m=>H.set b (.map m)) (C04 s v bs);rw[Option.map_map]at this;exact this
def B1x(f:Fm):Nat:=if f.op=6 then 1 else 0
def B3K(cs:List LinV):Option Bool:=if cs.all validL=true∧cs.length≤1000 then C2U cs else none
def B5r(rec:Fm→Option Bool):List Fm→Option Bool
 | []=>some false
 |k::l=>match rec k,B5r rec l with
  |some a,some b=>some (a||b)
  |_,_=>none
def A6I(rec:List LinV→BS→List Fm→Option Bool)(cs:List LinV)(bs:BS)(ks l:List Fm):Option Bool:=
 if l.length≤1∧ks.length≤1000 then
  if l≠[]∧B1x (l.headD Q5)=0 then rec cs bs (l++[.mk 6 0 nilL D3 ks])
  else match B3K cs with
   |none=>none
   |some false=>some false
   |some true=>B5r (fun k=>rec cs bs (k::l)) ks
 else none
def Y3:Nat→List LinV→BS→List Fm→Option Bool
 |0,_,_,_=>none
 |n+1,cs,bs,l=>match l with
  | []=>B3K cs
  |f::l=>
   if 1000<cs.length∨1000<l.length∨1000<f.ks.length then none
   else if f.op=1 then(if f.n=0 then some false else Y3 n cs bs l)
   else if f.op=2 then Y3 n (cs++[f.l]) bs l
   else if f.op=3 then(if A9t bs f.s=some false then some false else Y3 n cs (A1v bs f.s true) l)
   else if f.op=4 then(if f.ks= []then none else if A9t bs (f.ks.headD Q5).s=some true then some false else Y3 n cs (A1v bs (f.ks.headD Q5).s false) l)
   else if f.op=5 then Y3 n cs bs (f.ks++l)
   else if f.op=6 then A6I (Y3 n) cs bs f.ks l
   else none
def Y4(f:Fm)(more:List LinV):Option Bool:=Y3 60 more [] [normF f false]
theorem B5s(d:Fm→Option Bool): ∀(ks:List Fm) (b:Bool),B5r d ks=some b→(∀k∈ks,d k=some ((d k).getD false))∧b=ks.any fun k=>(d k).getD false:=by
 intro ks
 induction ks with
 |nil=>intro b h;rw[B5r]at h;injection h with h;exact⟨by simp,h.symm⟩
 |cons k l e=>
  intro b h;rw[B5r]at h;cases hk:d k with
  |none=>rw[hk]at h;cases h
  |some x=>
   cases hl:B5r d l with
   |none=>rw[hk,hl]at h;cases h
   |some y=>
    rw[hk,hl]at h;injection h with h
    obtain⟨g,i⟩:=e y hl;refine⟨fun q hq=>?_,?_⟩
    ·rcases D11.1 hq with rfl|hq
     ·rw[hk];rfl
     ·exact g q hq
    ·rw[D2e,hk,←i,←h];rfl
theorem A6J{Q:D→Heap→Prop}{H:Heap}{x sz n:Nat}{es:List (List D)}(hx:H x=none)(hn:n=es.length)(h:Q (.sl sz es) H):Fin Q (.vec x sz 0 n) (H.set x (.vec sz es)):=
 Fin.out (ob:=some x) hn (A0 _ _) (by show Fin _ _ ((Heap.set H x _).del x);rw[E6 hx];exact D22 h)
theorem C72(ks:List Fm): ∀(j:Nat) (d d':D),[D.int .i64 6,.int .i64 0,.nilsl,.int .i64 0,.bool false,.str ⟨#[]⟩,.sl 7 (Rw B9 ks)][j]? =some d→(B9 (.mk 6 0 nilL D3 ks))[j]? =some d'→NilR d d':=fun j d d' h1 e=>by
 rw[u0]at e
 match j with
 |0=>cases h1;cases e;exact .same _
 |1=>cases h1;cases e;exact .same _
 |2=>cases h1;cases e;exact .nil 2
 |3=>cases h1;cases e;exact .same _
 |4=>cases h1;cases e;exact .same _
 |5=>cases h1;cases e;exact .same _
 |6=>cases h1;cases e;exact .same _
 |j+7=>cases h1
theorem C05(f g:Fm)(W:List D)(h: ∀(j:Nat) (d d':D),W[j]? =some d→(B9 g)[j]? =some d'→NilR d d')(hl:W.length=7:=by rfl):NilR (.sl 7 (Rw B9 [f]++[W])) (.sl 7 (Rw B9 ([f]++[g]))):=by
 refine .sl 7 _ _ rfl (fun i e e' h1 m=>?_) (fun i e e' j d d' h1 m p o=>?_)
 ·match i with
  |0=>cases h1;cases m;rfl
  |1=>cases h1;cases m;rw[hl,C0h]
  |i+2=>cases h1
 ·match i with
  |0=>cases h1;cases m;rw[p]at o;cases o;exact .same _
  |1=>cases h1;cases m;exact h j d d' p o
  |i+2=>cases h1
def mG(bs:BS):Option Nat→D
 |none=>.fm (bsC bs)
 |some m=>.map m
def mAt(H:Heap)(bs:BS):Option Nat→Prop
 |none=>True
 |some m=>H m=some (.map (bsC bs))
theorem C73(bs:BS)(d:Option Nat):(∃k,mG bs d= .fm k)∨∃b,mG bs d= .map b:=by cases d with
 |none=>exact .inl ⟨_,rfl⟩
 |some m=>exact .inr ⟨_,rfl⟩
end Go.Fo
namespace Go.Proofs.YtibphjonmikciaaGreatDoor
open Go Go.Av Go.Lexs Go.Lin Go.Fo
attribute [local irreducible] ACalls Q4
theorem C2c(cs:List LinV)(x:Bool)(hx:B3K cs=some x): ∀(Q:D→Heap→Prop) (H:Heap),Q (.bool x) H→D8 155 [.sl 3 (Rw E4 cs)] H Q:=fun Q H h=>by
 unfold B3K at hx;split at hx
 ·rename_i hv;exact C4Q cs hv.2 (D2A.1 hv.1) x hx H h
 ·cases hx
def A7S(n:Nat):Prop:=∀(Q:D→Heap→Prop) (cs:List LinV) (bs:BS) (l:List Fm) (b:Bool),Y3 n cs bs l=some b→∀H:Heap,Q (.bool b) H→D8 124 [.agg [.sl 3 (Rw E4 cs),.fm (bsC bs)],.sl 7 (Rw B9 l)] H Q
theorem B5t(n:Nat)(A:A7S n){Q}(cs:List LinV)(bs:BS)(k:Fm)(l:List Fm)(b:Bool)(hb:Y3 n cs bs (k::l)=some b)(hl:l.length≤1000)(j b5:Nat)(H:Heap)(r:H j=some (.box [.sl 3 (Rw E4 cs),.fm (bsC bs)]))(h5:H b5=some (.box [.sl 7 (Rw B9 l)]))(h:Q (.bool b) H):
  D8 195 [.agg (B9 k),.box j 0,.box b5 0] H Q:=by
 refine A3e (ops:=chOps) A5 Tryz.func195 rfl (by kernel_rfl) (D1a (by kernel_rfl)) 7 4 rfl (by kernel_rfl) (by kernel_rfl) (by kernel_rfl) (by kernel_rfl) (by kernel_rfl) ?_;simp only[go_sem,seval];intro d m;have p:j≠d:=fun e=>by rw[←e,r]at m;cases m
 have q:b5≠d:=fun e=>by rw[←e,h5]at m;cases m
 have u:(H.set d (.box (B9 k))) j=some (.box [.sl 3 (Rw E4 cs),.fm (bsC bs)]):=by rw[A3 _ p];exact r
 have y:(H.set d (.box (B9 k))) b5=some (.box [.sl 7 (Rw B9 l)]):=by rw[A3 _ q];exact h5
 have z:(H.set d (.box (B9 k))) d=some (.box (B9 k)):=A0 _ _;have o:H.Le (H.set d (.box (B9 k))):=A2 m;generalize H.set d (.box (B9 k))=Bs at u y z o⊢;refine⟨fun i=>if i=0 then .agg [.sl 3 (Rw E4 cs),.fm (bsC bs)]else if i=1 then .agg (B9 k)else if i=2 then .sl 7 (Rw B9 [k])else if i=3 then .sl 7 (Rw B9 l)else if i=4 then .sl 1 [[.sl 7 (Rw B9 [k])],[.sl 7 (Rw B9 l)]]else if i=5 then .sl 7 (Rw B9 (k::l))else .bool b,C4z ?_ ?_ ?_ ?_ ?_ ?_ ?_ ?_,?_⟩
 ·intro ev g e1;simp only[go_sem,seval,show ev (.tmp 1)= .box j 0 from e1,u];exact D22 ⟨rfl,rfl⟩
 ·intro ev g e1;simp only[go_sem,seval,show ev (.tmp 3)= .box d 0 from e1,z];exact D22 ⟨rfl,rfl⟩
 ·intro ev g e1;simp only[go_sem,seval,show ev (.tmp 6)= .agg (B9 k)from e1];exact fun x hx=>A6J hx rfl ⟨rfl,rfl⟩
 ·intro ev g e1;simp only[go_sem,seval,show ev (.tmp 2)= .box b5 0 from e1,y];exact D22 ⟨rfl,rfl⟩
 ·intro ev g e1 e2;simp only[go_sem,seval,show ev (.tmp 7)= .sl 7 (Rw B9 [k])from e1,show ev (.tmp 8)= .sl 7 (Rw B9 l)from e2];exact fun x hx=>A6J hx rfl ⟨rfl,rfl⟩
 ·intro ev g e1;simp only[go_sem,seval,show ev (.tmp 9)= .sl 1 [[.sl 7 (Rw B9 [k])],[.sl 7 (Rw B9 l)]]from e1,g.func];refine A8e [k] l (by simp only[D1e,D1g];omega) _ ?_;exact D22 ⟨rfl,rfl⟩
 ·intro ev g e1 e2;simp only[go_sem,seval,show ev (.tmp 5)= .agg [.sl 3 (Rw E4 cs),.fm (bsC bs)]from e1,show ev (.tmp 10)= .sl 7 (Rw B9 (k::l))from e2,g.func];refine A _ cs bs (k::l) b hb _ ?_;exact D22 ⟨rfl,rfl⟩
 ·intro ev g e1;simp only[go_sem,seval,show ev (.tmp 11)= .bool b from e1];exact D22 ⟨rfl,rfl⟩
 ·exact D21 o h
def C06(n:Nat):Prop:=∀(Q:D→Heap→Prop) (cs:List LinV) (bs:BS) (ks l:List Fm) (b:Bool),A6I (Y3 n) cs bs ks l=some b→∀H:Heap,Q (.bool b) H→D8 154 [.agg [.sl 3 (Rw E4 cs),.fm (bsC bs)],.sl 7 (Rw B9 ks),.sl 7 (Rw B9 l)] H Q
theorem B8s(n:Nat)(hS:A7S n):C06 n:=by
 intro Q cs bs ks l b hb H h;unfold A6I at hb;split at hb
 rotate_left
 ·cases hb
 rename_i hlen;obtain⟨C,b4⟩:=hlen;refine A8 [(3,.par)] A5 Tryz.func154 rfl ?_;simp only[go_sem,seval,Tryz.results154];intro p g3 b5 O;simp only[A6]at O;have T:p≠b5:=fun e=>O.1 e.symm;have u:((H.set p (.box [.sl 3 (Rw E4 cs),.fm (bsC bs)])).set b5 (.box [.sl 7 (Rw B9 l)])) p=some (.box [.sl 3 (Rw E4 cs),.fm (bsC bs)]):=by rw[A3 _ T,A0]
 have y:((H.set p (.box [.sl 3 (Rw E4 cs),.fm (bsC bs)])).set b5 (.box [.sl 7 (Rw B9 l)])) b5=some (.box [.sl 7 (Rw B9 l)]):=A0 _ _;have q:H.Le ((H.set p (.box [.sl 3 (Rw E4 cs),.fm (bsC bs)])).set b5 (.box [.sl 7 (Rw B9 l)])):=(A2 g3).trans (A2 (by simp only[A6];exact O));generalize (H.set p (.box [.sl 3 (Rw E4 cs),.fm (bsC bs)])).set b5 (.box [.sl 7 (Rw B9 l)])=Bs at u y q⊢;by_cases hr:l≠[]∧B1x (l.headD Q5)=0
 ·rw[if_pos hr]at hb;obtain⟨U,z⟩:=hr;obtain⟨f,rfl⟩: ∃f,l= [f]:=by
   match l,U,C with
   | [f],_,_=>exact⟨f,rfl⟩
  have hro:f.op≠6:=fun e=>by rw[show ([f]:List Fm).headD Q5=f from rfl]at z;unfold B1x at z;rw[if_pos e]at z;cases z
  have A:=fun(Q:D→Heap→Prop) (H:Heap)=>B3J (Q:=Q) f H;simp only[if_neg hro]at A;have G:(Rw B9 [f]).getD 0 []=B9 f:=rfl;repeat' (first|with_reducible apply D1Z|simp only[go_sem,seval,u,y,G]|(intro j;try simp only[A6]at j)|with_reducible refine A4M [f] (by simp) _ _ ?_|with_reducible refine A _ _ ?_|omega)
  all_goals first|decide|omega|skip
  have m3:p∈[p,b5]:=by simp
  have m5:b5∈[p,b5]:=by simp
  refine B3e (fun i=>if i=2 then .mk' (fun c=>.vec c 7 0 1) (.vec 7 (Rw B9 [f]))else .c (.bool b)) [p,b5] ?_;have Y:(Av.Obj.vec 7 (Rw B9 [f])).rw=true:=rfl;have cl: ∀(H':Heap) (Q:D→Heap→Prop),(∀c,H' c=none→Q (.vec c 7 0 1) (H'.set c (.vec 7 (Rw B9 [f]))))→D8 194 [.sl 7 (Rw B9 [f])] H' Q:=fun H' Q hq=>B8p [f] (by simp) (by simp) H' hq;repeat' simp only[go_sem,seval,u,y,m3,m5]
  refine pcm (f:=fun c=>.vec c 7 0 1) Y (fun H' Q hro hq=>cl H' Q hq) fun c hc=>?_;have a0:p≠c:=fun e=>by rw[←e,u]at hc;cases hc
  have a4:b5≠c:=fun e=>by rw[←e,y]at hc;cases hc
  repeat' (first|simp only[go_sem,seval,u,y,m3,m5]|(intro j;try simp only[A6]at j))
  rename_i x;have hx:=j;clear j;obtain⟨W,hW⟩: ∃W:List D,W= [.int .i64 6,.int .i64 0,.nilsl,.int .i64 0,.bool false,.str ⟨#[]⟩,.sl 7 (Rw B9 ks)]:=⟨_,rfl⟩
  rw[←hW];have I:c≠x:=fun e=>hx.1 e.symm;have a5:p≠x:=fun e=>by rw[←e]at hx;have:=hx.2;rw[u]at this;cases this
  have a6:b5≠x:=fun e=>by rw[←e]at hx;have:=hx.2;rw[y]at this;cases this
  refine A8S 28 96 (n:=1) (m:=1) (bx:=x) (ob:=some c) (es:=Rw B9 [f]) (xs:=[W]) (by simp only[go_sem,seval]) (by decide) (by simp only[go_sem,seval]) (by simp only[go_sem,seval]) (by simp only[go_sem,seval]) (by simp only[go_sem,seval]) (A0 _ _) rfl (by simp) (?_:(Heap.set _ x _) c=_) rfl ?_ ?_ ?_ (by simp) (by simp) fun b' r=>?_
  ·rw[A3 _ I];exact A0 _ _
  ·simp only[D11,D12,or_false,not_or];exact⟨a5.symm,a6.symm⟩
  ·intro e;injection e with e;exact I e
  ·intro c' e;injection e with e;subst e
   simp only[D11,D12,or_false,not_or];exact⟨a0.symm,a4.symm⟩
  have hH: ∀V X:Av.Obj,L5 (((Bs.set c V).set x X).del x) (some c)=Bs:=fun V X=>by rw[E6 (A6.2 hx)];exact E6 hc
  rw[hH]at r⊢;have a9:b'∉[p,b5]:=by
   simp only[D11,D12,or_false,not_or];exact⟨fun e=>(by rw[e,u]at r;cases r),fun e=>(by rw[e,y]at r;cases r)⟩
  have b0:(Av.Obj.vec 7 (Rw B9 [f]++[W])).rw=true:=rfl;have e1:(1:Nat)+ [W].length=2:=rfl;repeat' simp only[go_sem,seval,e1]
  refine pc1 (o:=.vec 7 (Rw B9 [f]++[W])) (A0 _ _) b0 a9 (fun H' Q hro b1 hq=>?_) ?_
  ·refine A0o b1 rfl ?_;refine V5 (args':=[.agg [.sl 3 (Rw E4 cs),.fm (bsC bs)],.sl 7 (Rw B9 ([f]++[.mk 6 0 nilL D3 ks]))]) rfl (fun i d d' h1 h2=>?_) (hS _ cs bs _ b hb _ hq)
   match i with
   |0=>cases h1;cases h2;exact .same _
   |1=>cases h1;cases h2;rw[hW];exact C05 f _ _ (C72 ks)
   |i+2=>cases h1
  ·rw[E6 r];repeat' simp only[go_sem,seval]
   exact D21 q h
 ·rw[if_neg hr]at hb;have J:l= []∨∃f,l= [f]∧f.op=6:=by
   match l,C,hr with
   | [],_,_=>exact .inl rfl
   | [f],_,hr=>
    refine .inr ⟨f,rfl,?_⟩;by_cases e:f.op=6
    ·exact e
    ·exact absurd ⟨by simp,by show B1x f=0;unfold B1x;rw[if_neg e]⟩ hr
  have b2:l.length≤1000:=by omega
  obtain⟨x,hx⟩: ∃x,B3K cs=some x:=by
   cases e:B3K cs with
   |none=>rw[e]at hb;cases hb
   |some x=>exact⟨x,rfl⟩
  have M:=C2c cs x hx;rw[hx]at hb;cases x with
  |false=>
   injection hb with hb
   subst hb;rcases J with rfl|⟨f,rfl,ho⟩
   ·have L:=fun(g:D) (Q:D→Heap→Prop) (H:Heap)=>A4M (Q:=Q) [] (by simp) g H;simp only[A0u]at L;repeat' (first|with_reducible apply D1Z|simp only[go_sem,seval,u,y,A0u]|(intro j;try simp only[A6]at j)|with_reducible refine L _ _ _ ?_|with_reducible refine M _ _ ?_|omega)
    all_goals first|exact D21 q h|skip
   ·have A:=fun(Q:D→Heap→Prop) (H:Heap)=>B3J (Q:=Q) f H;simp only[if_pos ho]at A;have G:(Rw B9 [f]).getD 0 []=B9 f:=rfl;repeat' (first|with_reducible apply D1Z|simp only[go_sem,seval,u,y,G]|(intro j;try simp only[A6]at j)|with_reducible refine A4M [f] (by simp) _ _ ?_|with_reducible refine A _ _ ?_|with_reducible refine M _ _ ?_|omega)
    all_goals first|exact D21 q h|decide|omega|skip
  |true=>
   obtain⟨a1,a2⟩:=B5s _ _ _ hb;have cc:=fun(Q:D→Heap→Prop)=>A9j (Q:=Q) (fun k=>(Y3 n cs bs (k::l)).getD false) ks (by omega) 195 [] [.box p 0,.box b5 0] Bs (fun k hk _ Q hq=>B5t n hS cs bs ks[k] l _ (a1 _ (D1n hk)) b2 p b5 Bs u y hq);rw[←a2]at cc;rcases J with rfl|⟨f,rfl,ho⟩
   ·have L:=fun(g:D) (Q:D→Heap→Prop) (H:Heap)=>A4M (Q:=Q) [] (by simp) g H;simp only[A0u]at L;repeat' (first|with_reducible apply D1Z|simp only[go_sem,seval,u,y,A0u]|(intro j;try simp only[A6]at j)|with_reducible refine L _ _ _ ?_|with_reducible refine M _ _ ?_|with_reducible refine cc _ ?_|omega)
    all_goals first|exact D21 q h|skip
   ·have A:=fun(Q:D→Heap→Prop) (H:Heap)=>B3J (Q:=Q) f H;simp only[if_pos ho]at A;have G:(Rw B9 [f]).getD 0 []=B9 f:=rfl;repeat' (first|with_reducible apply D1Z|simp only[go_sem,seval,u,y,G]|(intro j;try simp only[A6]at j)|with_reducible refine A4M [f] (by simp) _ _ ?_|with_reducible refine A _ _ ?_|with_reducible refine M _ _ ?_|with_reducible refine cc _ ?_|omega)
    all_goals first|exact D21 q h|decide|omega|skip
theorem B8t(f:Fm)(l:List Fm):((Rw B9 (f::l)).take (l.length+1)).tail=Rw B9 l:=by rw[D1o (by simp[Rw])];rfl
theorem B8u(f:Fm)(l:List Fm):((Rw B9 (f::l)).take (l.length+1)).drop 1=Rw B9 l:=by rw[D1o (by simp[Rw])];rfl
theorem C07(bs:BS):mG bs none= .fm (bsC bs):=rfl
theorem C08(bs:BS)(m:Nat):mG bs (some m)= .map m:=rfl
set_option maxHeartbeats 4000000 in
theorem C09(n:Nat)(ih: ∀m,m<n→A7S m):A7S n:=by
 intro Q O T l0 b hb H h;refine A8 [(15,.wk)] A5 Tryz.func124 rfl ?_;simp only[go_sem,seval,Tryz.results124];intro y g2;have e2:(H.set y (.box [.sl 3 (Rw E4 O),.fm (bsC T)])) y=some (.box [.sl 3 (Rw E4 O),.fm (bsC T)]):=A0 _ _;have b3:H.Le (H.set y (.box [.sl 3 (Rw E4 O),.fm (bsC T)])):=A2 g2;generalize H.set y (.box [.sl 3 (Rw E4 O),.fm (bsC T)])=Bs at e2 b3⊢;repeat' (first|with_reducible apply D1Z|simp only[go_sem,seval]|simp(disch:=omega) only[C3]|simp(disch:=first|omega|grind) only[B3,F1]|(intro g;try simp only[A6]at g)|omega)
 refine C2 [2] (fun(p:Nat×List LinV×BS×List Fm×Option Nat×Heap)=>[(1,.sl 7 (Rw B9 p.2.2.2.1))]) (fun(p:Nat×List LinV×BS×List Fm×Option Nat×Heap)=>p.2.2.2.2.2) (fun(p:Nat×List LinV×BS×List Fm×Option Nat×Heap)=>Y3 p.1 p.2.1 p.2.2.1 p.2.2.2.1=some b∧p.1≤n∧p.2.2.2.2.2 y=some (.box [.sl 3 (Rw E4 p.2.1),mG p.2.2.1 p.2.2.2.2.1])∧mAt p.2.2.2.2.2 p.2.2.1 p.2.2.2.2.1∧H.Le p.2.2.2.2.2∧(∀m,p.2.2.2.2.1=some m→H m=none)) (fun(p:Nat×List LinV×BS×List Fm×Option Nat×Heap)=>p.1) ((n,O,T,l0,none,Bs)) (⟨hb,D1t _,e2,trivial,b3,fun _ e=>(by cases e)⟩) (by simp only[go_sem,seval]) (D20 _) ?_;rintro Ec rfl ⟨k,cs,bs,l,J,Hp⟩ ⟨hs,hk,u,z,hp,U⟩;simp only at hs hk u z hp U;have a5:(mG bs J).one=true:=by cases J<;>rfl
 have a6:(mG bs J).cells= [mG bs J]:=by cases J<;>rfl
 have b4:(D.one.match_1 (fun _=>Bool) (mG bs J) (fun _=>false) (fun _=>false) (fun _=>false) fun _=>true)=true:=by cases J<;>rfl
 cases k with
 |zero=>cases hs
 |succ k=>
  cases l with
  |nil=>
   have hs:B3K cs=some b:=hs;have tc:=C2c cs b hs;have r0:(Rw B9 [])= []:=rfl;repeat' (first|simp only[go_sem,seval,u,r0]|with_reducible refine tc _ _ ?_)
   all_goals first|exact D21 hp h|skip
  |cons f l=>
   have hs:(if 1000<cs.length∨1000<l.length∨1000<f.ks.length then none else if f.op=1 then(if f.n=0 then some false else Y3 k cs bs l)else if f.op=2 then Y3 k (cs++[f.l]) bs l else if f.op=3 then(if A9t bs f.s=some false then some false else Y3 k cs (A1v bs f.s true) l)else if f.op=4 then(if f.ks= []then none else if A9t bs (f.ks.headD Q5).s=some true then some false else Y3 k cs (A1v bs (f.ks.headD Q5).s false) l)else if f.op=5 then Y3 k cs bs (f.ks++l)else if f.op=6 then A6I (Y3 k) cs bs f.ks l else none)=some b:=hs;split at hs
   ·cases hs
   rename_i d4;have L:(0:Int)<(f::l).length:=by simp only[D1e];omega
   have hlen:(f::l).length=l.length+1:=rfl;have r0:(Rw B9 (f::l)).getD 0 []=B9 f:=rfl;have d1:=B8t f l;have d2:=B8u f l;by_cases o1:f.op=1
   ·rw[if_pos o1]at hs;by_cases n0:f.n=0
    ·rw[if_pos n0]at hs;injection hs with hs
     subst hs;repeat' (first|with_reducible apply D1Z|simp only[go_sem,seval,u,r0,d1,d2,o1,n0,L]|(intro g;try simp only[A6]at g)|omega)
     all_goals first|exact D21 (hp.trans (A2 (by assumption))) h|skip
    ·rw[if_neg n0]at hs;repeat' (first|with_reducible apply D1Z|simp only[go_sem,seval,u,r0,d1,d2,o1,n0,L]|(intro g;try simp only[A6]at g)|omega)
     exact C1 (k,cs,bs,l,J,Hp) ⟨hs,by simp only[];omega,u,z,hp,U⟩ (by simp only[];omega) (by simp only[go_sem,seval]) (A2 (by assumption))
   ·rw[if_neg o1]at hs;by_cases o2:f.op=2
    ·rw[if_pos o2]at hs;have c3: ¬(2:Int)=1:=by decide
     repeat' (first|with_reducible apply D1Z|simp only[go_sem,seval,u,r0,d1,d2,c3,o2,L,a5,a6]|simp(disch:=first|omega|grind) only[B3,F1]|(intro g;try simp only[A6]at g)|omega)
     rename_i b5 h5 x;have hx:=g;clear g;refine A94 (es:=[E4 f.l]) (by first|exact hx|exact A6.2 hx) rfl ?_;refine B8q cs [f.l] (mG bs J) (C73 _ _) (by simp only[D1e,D1g];omega) _ ?_;repeat' (first|simp only[go_sem,seval,u,d1,a5,a6,b4]|simp(disch:=first|omega|grind) only[B3,F1])
     refine C1 (k,cs++[f.l],bs,l,J,Hp.set y (.box [.sl 3 (Rw E4 (cs++[f.l])),mG bs J])) ⟨hs,by simp only[];omega,A0 _ _,?_,F3 hp g2,U⟩ (by simp only[];omega) (by simp only[go_sem,seval]) (by simp only[D7,C9,D0]at* <;>grind);cases J with
     |none=>trivial
     |some m=>
      have z:Hp m=some (.map (bsC bs)):=z;have:m≠y:=fun e=>by rw[e,u]at z;cases z
      show (Heap.set _ y _) m=_;rw[A3 _ this];exact z
    ·rw[if_neg o2]at hs;by_cases a0:f.op=3∨f.op=4
     ·have c4: ∃M I,(if A9t bs M=some (!I)then some false else Y3 k cs (A1v bs M I) l)=some b∧((f.op=3∧M=f.s∧I=true)∨(f.op=4∧∃k0 r,f.ks=k0::r∧M=k0.s∧I=false)):=by
       by_cases o3:f.op=3
       ·rw[if_pos o3]at hs;exact⟨f.s,true,hs,.inl ⟨o3,rfl,rfl⟩⟩
       ·rw[if_neg o3,if_pos (by omega)]at hs;split at hs
        ·cases hs
        ·rename_i c5;cases b6:f.ks with
         |nil=>exact absurd b6 c5
         |cons k0 r=>
          rw[b6]at hs;exact⟨k0.s,false,hs,.inr ⟨by omega,k0,r,rfl,rfl,rfl⟩⟩
      obtain⟨M,I,hs,hw⟩:=c4;apply I6 (C:=True)
      ·intro hJ;rcases hw with⟨o3,hn,a9⟩|⟨o4,k0,r,c6,hn,a9⟩
       ·have b0: ¬(3:Int)=1:=by decide
        have b1: ¬(3:Int)=2:=by decide
        have a0: ¬(3:Int)=4:=by decide
        repeat' (first|with_reducible apply D1Z|simp only[go_sem,seval,u,r0,d1,d2,b0,b1,a0,o3,L]|(intro g;try simp only[A6]at g)|omega)
        exact F2 [(1,.sl 7 (Rw B9 l)),(2,.box y 0),(6,.str M),(7,.bool I)] Hp (by simp only[go_sem,seval,hn,a9]) (A2 (by assumption)) (hJ trivial)
       ·have b0: ¬(4:Int)=1:=by decide
        have b1: ¬(4:Int)=2:=by decide
        have a0: ¬(4:Int)=3:=by decide
        have rk:(Rw B9 (k0::r)).getD 0 []=B9 k0:=rfl;repeat' (first|with_reducible apply D1Z|simp only[go_sem,seval,u,r0,d1,d2,b0,b1,a0,o4,L,c6,rk]|(intro g;try simp only[A6]at g)|omega)
        all_goals first|decide|omega|skip
        exact F2 [(1,.sl 7 (Rw B9 l)),(2,.box y 0),(6,.str M),(7,.bool I)] Hp (by simp only[go_sem,seval,hn,a9]) (A2 (by assumption)) (hJ trivial)
      intro _;rcases find_bsC M bs 0 with⟨h1,h2,h3⟩|⟨j,bv,_,h1,h2,h4⟩
      ·rw[h1,if_neg (by simp)]at hs;cases J with
       |none=>
        repeat' simp only[go_sem,seval,u,h2,C07]
        refine A1u (bsC bs) _ fun bn d=>?_;have V:(Hp.set bn (.map (bsC bs))) y=some (.box [.sl 3 (Rw E4 cs),.fm (bsC bs)]):=by rw[A3 _ (fun e=>by rw[←e,u]at d;cases d)];exact u
        have A:bn≠y:=fun e=>by rw[e,u]at d;cases d
        have W: ∀X:Av.Obj,((Hp.set bn (.map (bsC bs))).set y X) bn=some (.map (bsC bs)):=fun X=>by rw[A3 _ A];exact A0 _ _
        have i:H.Le (Hp.set bn (.map (bsC bs))):=hp.trans (A2 d);have G:H bn=none:=hp.none d;generalize Hp.set bn (.map (bsC bs))=Cs at V W i⊢;repeat' simp only[go_sem,seval,V,W,A4N]
        refine C1 (k,cs,A1v bs M I,l,some bn,(Cs.set y (.box [.sl 3 (Rw E4 cs),.map bn])).set bn (.map (bsC (A1v bs M I)))) ⟨hs,by simp only[];omega,?_,A0 _ _,?_,fun m e=>(by cases e;exact G)⟩ (by simp only[];omega) (by simp only[go_sem,seval]) (D20 _)
        ·show (Heap.set _ bn _) y=_;rw[A3 _ A.symm];exact A0 _ _
        ·exact F3 (F3 i g2) G
       |some m=>
        have z:Hp m=some (.map (bsC bs)):=z;repeat' simp only[go_sem,seval,u,h2,z,C08]
        refine A3B m (bsC bs) _ z fun bn d=>?_;have V:(Hp.set bn (.map (bsC bs))) y=some (.box [.sl 3 (Rw E4 cs),.map m]):=by rw[A3 _ (fun e=>by rw[←e,u]at d;cases d)];exact u
        have A:bn≠y:=fun e=>by rw[e,u]at d;cases d
        have W: ∀X:Av.Obj,((Hp.set bn (.map (bsC bs))).set y X) bn=some (.map (bsC bs)):=fun X=>by rw[A3 _ A];exact A0 _ _
        have i:H.Le (Hp.set bn (.map (bsC bs))):=hp.trans (A2 d);have G:H bn=none:=hp.none d;generalize Hp.set bn (.map (bsC bs))=Cs at V W i⊢;repeat' simp only[go_sem,seval,V,W,A4N]
        refine C1 (k,cs,A1v bs M I,l,some bn,(Cs.set y (.box [.sl 3 (Rw E4 cs),.map bn])).set bn (.map (bsC (A1v bs M I)))) ⟨hs,by simp only[];omega,?_,A0 _ _,?_,fun m e=>(by cases e;exact G)⟩ (by simp only[];omega) (by simp only[go_sem,seval]) (D20 _)
        ·show (Heap.set _ bn _) y=_;rw[A3 _ A.symm];exact A0 _ _
        ·exact F3 (F3 i g2) G
      ·rw[h1]at hs;by_cases a4:bv= !I
       ·rw[if_pos (by rw[a4])]at hs;injection hs with hs
        subst hs;have Y: ¬bv=I:=by rw[a4];cases I<;>simp
        cases J with
        |none=>
         repeat' simp only[go_sem,seval,u,h2,C07,Y]
         all_goals first|exact D21 hp h|skip
        |some m=>
         have z:Hp m=some (.map (bsC bs)):=z;repeat' simp only[go_sem,seval,u,h2,z,C08,Y]
         all_goals first|exact D21 hp h|skip
       ·rw[if_neg (fun e=>a4 (by injection e))]at hs;have Y:bv=I:=by cases bv<;>cases I<;>simp at a4⊢
        cases J with
        |none=>
         repeat' simp only[go_sem,seval,u,h2,C07,Y]
         refine A1u (bsC bs) _ fun bn d=>?_;have V:(Hp.set bn (.map (bsC bs))) y=some (.box [.sl 3 (Rw E4 cs),.fm (bsC bs)]):=by rw[A3 _ (fun e=>by rw[←e,u]at d;cases d)];exact u
         have A:bn≠y:=fun e=>by rw[e,u]at d;cases d
         have W: ∀X:Av.Obj,((Hp.set bn (.map (bsC bs))).set y X) bn=some (.map (bsC bs)):=fun X=>by rw[A3 _ A];exact A0 _ _
         have i:H.Le (Hp.set bn (.map (bsC bs))):=hp.trans (A2 d);have G:H bn=none:=hp.none d;generalize Hp.set bn (.map (bsC bs))=Cs at V W i⊢;repeat' simp only[go_sem,seval,V,W,A4N]
         refine C1 (k,cs,A1v bs M I,l,some bn,(Cs.set y (.box [.sl 3 (Rw E4 cs),.map bn])).set bn (.map (bsC (A1v bs M I)))) ⟨hs,by simp only[];omega,?_,A0 _ _,?_,fun m e=>(by cases e;exact G)⟩ (by simp only[];omega) (by simp only[go_sem,seval]) (D20 _)
         ·show (Heap.set _ bn _) y=_;rw[A3 _ A.symm];exact A0 _ _
         ·exact F3 (F3 i g2) G
        |some m=>
         have z:Hp m=some (.map (bsC bs)):=z;repeat' simp only[go_sem,seval,u,h2,z,C08,Y]
         refine A3B m (bsC bs) _ z fun bn d=>?_;have V:(Hp.set bn (.map (bsC bs))) y=some (.box [.sl 3 (Rw E4 cs),.map m]):=by rw[A3 _ (fun e=>by rw[←e,u]at d;cases d)];exact u
         have A:bn≠y:=fun e=>by rw[e,u]at d;cases d
         have W: ∀X:Av.Obj,((Hp.set bn (.map (bsC bs))).set y X) bn=some (.map (bsC bs)):=fun X=>by rw[A3 _ A];exact A0 _ _
         have i:H.Le (Hp.set bn (.map (bsC bs))):=hp.trans (A2 d);have G:H bn=none:=hp.none d;generalize Hp.set bn (.map (bsC bs))=Cs at V W i⊢;repeat' simp only[go_sem,seval,V,W,A4N]
         refine C1 (k,cs,A1v bs M I,l,some bn,(Cs.set y (.box [.sl 3 (Rw E4 cs),.map bn])).set bn (.map (bsC (A1v bs M I)))) ⟨hs,by simp only[];omega,?_,A0 _ _,?_,fun m e=>(by cases e;exact G)⟩ (by simp only[];omega) (by simp only[go_sem,seval]) (D20 _)
         ·show (Heap.set _ bn _) y=_;rw[A3 _ A.symm];exact A0 _ _
         ·exact F3 (F3 i g2) G
     ·rw[if_neg (by omega),if_neg (by omega)]at hs;by_cases o5:f.op=5
      ·rw[if_pos o5]at hs;have c7: ¬(5:Int)=1:=by decide
       have c8: ¬(5:Int)=2:=by decide
       have c9: ¬(5:Int)=3:=by decide
       have d0: ¬(5:Int)=4:=by decide
       repeat' (first|with_reducible apply D1Z|simp only[go_sem,seval,u,r0,d1,d2,c7,c8,c9,d0,o5,L]|(intro g;try simp only[A6]at g)|omega)
       rename_i b5 h5 x;have hx:=g;clear g;refine S5 (es:=[[.sl 7 (Rw B9 f.ks)],[.sl 7 (Rw B9 l)]]) (by first|exact hx|exact A6.2 hx) rfl ?_;refine A8e f.ks l (by omega) _ ?_;repeat' simp only[go_sem,seval]
       exact C1 (k,cs,bs,f.ks++l,J,Hp) ⟨hs,by simp only[];omega,u,z,hp,U⟩ (by simp only[];omega) (by simp only[go_sem,seval]) (A2 h5)
      ·rw[if_neg o5]at hs;by_cases o6:f.op=6
       ·rw[if_pos o6]at hs;have b7: ¬(6:Int)=1:=by decide
        have b8: ¬(6:Int)=2:=by decide
        have b9: ¬(6:Int)=3:=by decide
        have c0: ¬(6:Int)=4:=by decide
        have c1: ¬(6:Int)=5:=by decide
        have cc:=fun(Q:D→Heap→Prop) (H:Heap)=>B8s k (ih k (by omega)) Q cs bs f.ks l b hs H;cases J with
        |none=>
         repeat' (first|with_reducible apply D1Z|simp only[go_sem,seval,u,r0,d1,d2,b7,b8,b9,c0,c1,o6,L,C07]|simp(disch:=first|omega|grind) only[B3,F1]|(intro g;try simp only[A6]at g)|omega)
         refine cc _ _ ?_;repeat' simp only[go_sem,seval]
         exact D21 (hp.trans (A2 (by assumption))) h
        |some m=>
         have z:Hp m=some (.map (bsC bs)):=z;repeat' (first|with_reducible apply D1Z|simp only[go_sem,seval,u,r0,d1,d2,b7,b8,b9,c0,c1,o6,L,C08]|simp(disch:=first|omega|grind) only[B3,F1]|(intro g;try simp only[A6]at g)|omega)
         rename_i b5;have h5:=g;clear g;have d3:m≠b5:=fun e=>by rw[←e,z]at h5;cases h5
         have d5:y≠m:=fun e=>by rw[←e,u]at z;cases z
         refine A7Z (by rw[A3 _ d3];exact z) ?_;refine cc _ _ ?_;repeat' simp only[go_sem,seval]
         refine D21 (fun q o hq=>?_) h;have q5:q≠m:=fun e=>by rw[e,U m rfl]at hq;cases hq
         rw[F1 q5];exact hp.trans (A2 h5) _ _ hq
       ·rw[if_neg o6]at hs;cases hs
theorem C1A: ∀n,A7S n:=fun n=>by
 induction n using Nat.strongRecOn with
 |_ n d=>exact C09 n d
theorem C41(m x:D):NilR (.agg [.nilsl,m]) (.agg [.sl 3 [],m]):=by
 refine .agg _ _ rfl fun i d d' h1 e=>?_
 match i with
 |0=>cases h1;cases e;exact .nil 3
 |1=>cases h1;cases e;exact .same _
 |i+2=>cases h1
theorem A4O{Q}(f:Fm)(p:G8 D5 f=true)(q:FmFit f)(more:List LinV)(hm:more.length≤1000)(b:Bool)(hs:Y4 f more=some b)(H:Heap)(h:Q (.bool b) H):D8 73 [.agg (B9 f),.sl 3 (Rw E4 more)] H Q:=by
 refine A3e (ops:=svOps) A5 Tryz.func73 rfl (by kernel_rfl) (D1a (by kernel_rfl)) 8 4 rfl (by kernel_rfl) (by kernel_rfl) (by kernel_rfl) (by kernel_rfl) (by kernel_rfl) ?_;simp only[go_sem,seval];intro g m;have o:(H.set g (.box (B9 f))) g=some (.box (B9 f)):=A0 _ _;have j:H.Le (H.set g (.box (B9 f))):=A2 m;generalize H.set g (.box (B9 f))=Bs at o j⊢;unfold Y4 at hs;refine⟨fun i=>if i=0 then .fm []else if i=1 then .agg [.nilsl,.fm []]else if i=2 then .sl 3 (Rw E4 more)else if i=3 then .agg [.sl 3 (Rw E4 more),.fm []]else if i=4 then .agg (B9 f)else if i=5 then .agg (B9 (normF f false))else if i=6 then .sl 7 (Rw B9 [normF f false])else .bool b,C4y ?_ ?_ ?_ ?_ ?_ ?_ ?_ ?_ ?_,?_⟩
 ·intro ev e;simp only[go_sem,seval,];intro x hx;refine A5k (kvs:=[]) (A0 _ _) ?_;rw[E6 hx];refine D22 ?_;exact⟨rfl,rfl⟩
 ·intro ev e e1;simp only[go_sem,seval,show ev (.tmp 5)= .fm []from e1,show (D.fm []).cells= [D.fm []]from rfl];exact D22 ⟨rfl,rfl⟩
 ·intro ev e e1;simp only[go_sem,seval,show ev (.tmp 1)= .sl 3 (Rw E4 more)from e1];exact D22 ⟨rfl,rfl⟩
 ·intro ev e e1 e2;simp only[go_sem,seval,show ev (.tmp 6)= .agg [.nilsl,.fm []]from e1,show ev (.tmp 7)= .sl 3 (Rw E4 more)from e2,e.func];refine V5 (args':=[.agg [.sl 3 (Rw E4 []),.fm []],.sl 3 (Rw E4 more)]) rfl (fun i d d' h1 m=>?_) (B8q [] more (.fm []) (.inl ⟨_,rfl⟩) (by simp only[D1g];omega) _ (D22 ?_))
  rotate_left
  ·exact⟨rfl,rfl⟩
  match i with
  |0=>cases h1;cases m;exact C41 _ (.fm [])
  |1=>cases h1;cases m;exact .same _
  |i+2=>cases h1
 ·intro ev e e1;simp only[go_sem,seval,show ev (.tmp 2)= .box g 0 from e1,o];exact D22 ⟨rfl,rfl⟩
 ·intro ev e e1;simp only[go_sem,seval,show ev (.tmp 9)= .agg (B9 f)from e1,e.func,show ev (.const (.bool false))= .bool false from e.const _];exact A7L f p q false _ (D22 ⟨rfl,rfl⟩)
 ·intro ev e e1;simp only[go_sem,seval,show ev (.tmp 10)= .agg (B9 (normF f false))from e1];exact fun x hx=>A6J hx rfl ⟨rfl,rfl⟩
 ·intro ev e e1 e2;simp only[go_sem,seval,show ev (.tmp 8)= .agg [.sl 3 (Rw E4 more),.fm []]from e1,show ev (.tmp 11)= .sl 7 (Rw B9 [normF f false])from e2,e.func];exact C1A 60 _ more [] [normF f false] b hs _ (D22 ⟨rfl,rfl⟩)
 ·intro ev e e1;simp only[go_sem,seval,show ev (.tmp 12)= .bool b from e1];exact D22 ⟨rfl,rfl⟩
 ·exact D21 j h
theorem A8f{Q}(f g:Fm)(I:G8 D5 f=true)(A:FmFit f)(r:G8 D5 g=true)(u:FmFit g)(b:Bool)(hs:Y4 (.mk 5 0 nilL D3 [f,normF g true]) []=some b)(hn:G8 D5 (.mk 5 0 nilL D3 [f,normF g true])=true)(H:Heap)(h:Q (.bool (!b)) H):D8 84 [.agg (B9 f),.agg (B9 g)] H Q:=by
 refine A3e (ops:=foOps) A5 Tryz.func84 rfl (by kernel_rfl) (D1a (by kernel_rfl)) 7 4 rfl (by kernel_rfl) (by kernel_rfl) (by kernel_rfl) (by kernel_rfl) (by kernel_rfl) ?_;simp only[go_sem,seval];intro j C m p;simp only[A6]at p;have q:j≠m:=fun e=>p.1 e.symm;have y:((H.set j (.box (B9 f))).set m (.box (B9 g))) j=some (.box (B9 f)):=by rw[A3 _ q,A0]
 have z:((H.set j (.box (B9 f))).set m (.box (B9 g))) m=some (.box (B9 g)):=A0 _ _;have o:H.Le ((H.set j (.box (B9 f))).set m (.box (B9 g))):=(A2 C).trans (A2 (by simp only[A6];exact p));generalize (H.set j (.box (B9 f))).set m (.box (B9 g))=Bs at y z o⊢;have G:FmFit (.mk 5 0 nilL D3 [f,normF g true]):=T9 (by simp[S8]) (by simp) fun k hk=>by
  simp only[D11,D12,or_false]at hk;rcases hk with rfl|rfl
  ·exact A
  ·exact(B1O g true r u).1
 refine⟨fun i=>if i=0 then .agg (B9 f)else if i=1 then .agg (B9 g)else if i=2 then .agg (B9 (normF g true))else if i=3 then .sl 7 (Rw B9 [f,normF g true])else if i=4 then .agg (B9 (.mk 5 0 nilL D3 [f,normF g true]))else if i=5 then .bool b else .bool (!b),C40 ?_ ?_ ?_ ?_ ?_ ?_ ?_ ?_,?_⟩
 ·intro ev d e1;simp only[go_sem,seval,show ev (.tmp 2)= .box j 0 from e1,y];exact D22 ⟨rfl,rfl⟩
 ·intro ev d e1;simp only[go_sem,seval,show ev (.tmp 3)= .box m 0 from e1,z];exact D22 ⟨rfl,rfl⟩
 ·intro ev d e1;simp only[go_sem,seval,show ev (.tmp 6)= .agg (B9 g)from e1,d.func,show ev (.const (.bool true))= .bool true from d.const _];exact A7L g r u true _ (D22 ⟨rfl,rfl⟩)
 ·intro ev d e1 e2;simp only[go_sem,seval,show ev (.tmp 5)= .agg (B9 f)from e1,show ev (.tmp 7)= .agg (B9 (normF g true))from e2];exact fun x hx=>A6J hx rfl ⟨rfl,rfl⟩
 ·intro ev d e1;simp only[go_sem,seval,show ev (.tmp 8)= .sl 7 (Rw B9 [f,normF g true])from e1,show ev (.const (.int .i64 5))= .int .i64 5 from d.const _];refine D4 (B28 5 0 0 false D3 _) (D22 ?_);exact⟨rfl,rfl⟩
 ·intro ev d e1;simp only[go_sem,seval,show ev (.tmp 9)= .agg (B9 (.mk 5 0 nilL D3 [f,normF g true]))from e1,d.func,show ev (.const (.slice none 0 0))= .nilsl from d.const _];refine A0n 3 ?_;exact A4O _ hn G [] (by simp) b hs _ (D22 ⟨rfl,rfl⟩)
 ·intro ev d e1;simp only[go_sem,seval,show ev (.tmp 10)= .bool b from e1];exact D22 ⟨rfl,rfl⟩
 ·intro ev d e1;simp only[go_sem,seval,show ev (.tmp 11)= .bool (!b)from e1];exact D22 ⟨rfl,rfl⟩
 ·exact D21 o h
theorem C1B{Q}(b:Nat)(o ms:List ByteArray)(W:o.Nodup)(H:Heap)(hb:H b=some (.map (D2 tt o)))
  (h: ∀K:List ByteArray,K.Nodup→(∀x,x∈K↔x∈o∨x∈ms)→Q (.tuple []) (H.set b (.map (D2 tt K)))):D8 126 [.map b,.fm (D2 tt ms)] H Q:=by
 refine A8 [] A5 Tryz.func126 rfl ?_;simp only[go_sem,seval,Tryz.results126];have m:(D2 tt ms).length=ms.length:=by simp[D2]
 repeat' intro r
 rename_i d;have J:=r;clear r;have y:b≠d:=fun e=>by rw[←e,hb]at J;cases J
 have Y:H.set d (.rng (D2 tt ms) [])=(H.set b (.map (D2 tt o))).set d (.rng (D2 tt ms) []):=by rw[B4Q hb]
 rw[Y];refine C2 [0,7] (fun(p:List Nat×List ByteArray)=>[]) (fun(p:List Nat×List ByteArray)=>(H.set b (.map (D2 tt p.2))).set d (.rng (D2 tt ms) p.1)) (fun(p:List Nat×List ByteArray)=>p.2.Nodup∧∀x,x∈p.2↔x∈o∨∃i,∃g:i<ms.length,i∈p.1∧ms[i]=x) (fun(p:List Nat×List ByteArray)=>A7J ms.length p.1) (([],o)) (⟨W,fun x=>by simp⟩) (by simp only[go_sem,seval]) (D20 _) ?_;rintro Ec rfl ⟨s,K⟩ ⟨A,hs⟩;simp only at A hs;have e7:((H.set b (.map (D2 tt K))).set d (.rng (D2 tt ms) s)) d=some (.rng (D2 tt ms) s):=A0 _ _;repeat' simp only[go_sem,seval,e7]
 refine A9C (fun i g hn=>?_) (fun u=>?_)
 ·rw[m]at g;have T:(((H.set b (.map (D2 tt K))).set d (.rng (D2 tt ms) s)).set d (.rng (D2 tt ms) (s++[i]))) d=some (.rng (D2 tt ms) (s++[i])):=A0 _ _;have U:(((H.set b (.map (D2 tt K))).set d (.rng (D2 tt ms) s)).set d (.rng (D2 tt ms) (s++[i]))) b=some (.map (D2 tt K)):=by rw[A3 _ y,A3 _ y];exact A0 _ _
  have ek:(D2 tt ms)[i]? =some (.str ms[i],.bool true):=by simp[D2,g]
  have L:(D2 tt ms)[i]'(by rw[m];exact g)=(.str ms[i],.bool true):=by simp[D2]
  have V: ∀X:Av.Obj,((((H.set b (.map (D2 tt K))).set d (.rng (D2 tt ms) s)).set d (.rng (D2 tt ms) (s++[i]))).set b X)=(H.set b X).set d (.rng (D2 tt ms) (s++[i])):=fun X=>by
   funext k
   by_cases C:k=b
   ·subst C;rw[A0,A3 _ y,A0]
   ·rw[A3 _ C];by_cases G:k=d
    ·subst G;rw[A0,A0]
    ·rw[A3 _ G,A3 _ G,A3 _ C,A3 _ G,A3 _ C]
  generalize (((H.set b (.map (D2 tt K))).set d (.rng (D2 tt ms) s)).set d (.rng (D2 tt ms) (s++[i])))=Gs at T U V⊢;repeat' simp only[go_sem,seval,T,U,ek,L,List.getLast?_concat,i6 _ _ _ _ A,A3V]
  refine C1 (s++[i],I8 K ms[i]) ⟨A3U A,fun x=>?_⟩ (A2Q g hn) (by simp only[go_sem,seval]) (by show Heap.Le ((H.set b _).set d _) _;rw[←V];exact D20 _);simp only[B1G];rw[hs x];constructor
  ·rintro((q|⟨j,M,O,I⟩)|q)
   ·exact .inl q
   ·exact .inr ⟨j,M,List.mem_append_left _ O,I⟩
   ·exact .inr ⟨i,g,by simp,q.symm⟩
  ·rintro(q|⟨j,M,O,I⟩)
   ·exact .inl (.inl q)
   ·rcases D1z.1 O with z|z
    ·exact .inl (.inr ⟨j,M,z,I⟩)
    ·rw[D10]at z;subst z;exact .inr I.symm
 ·repeat' simp only[go_sem,seval]
  refine D21 (A2 (by rw[A3 _ y.symm];exact J)) (h K A fun x=>?_);rw[hs x];refine or_congr Iff.rfl ⟨?_,fun hx=>?_⟩
  ·rintro⟨i,g,_,rfl⟩;exact D1n g
  ·obtain⟨i,g,rfl⟩:=List.getElem_of_mem hx;exact⟨i,g,u i (by rw[m];exact g),rfl⟩
theorem B8v{Q}(ks ms:List ByteArray)(d:ks.Nodup)(H:Heap)(h: ∀K:List ByteArray,K.Nodup→(∀x,x∈K↔x∈ks∨x∈ms)→Q (.fm (D2 tt K)) H):D8 75 [.fm (D2 tt ks),.fm (D2 tt ms)] H Q:=by
 refine A8 [] A5 Tryz.func75 rfl ?_;simp only[go_sem,seval,Tryz.results75];repeat' (first|with_reducible apply D1Z|simp only[go_sem,seval]|simp(disch:=omega) only[C3]|simp(disch:=first|omega|grind) only[F1]|intro g|omega)
 refine A1u _ _ fun b hb=>?_;repeat' simp only[go_sem,seval]
 refine C1B b ks ms d _ (A0 _ _) fun K i hx=>?_;repeat' simp only[go_sem,seval]
 exact A5k (kvs:=D2 tt K) (A0 _ _) (D21 (fun k o hk=>by
  have:k≠b:=fun e=>by rw[e,hb]at hk;cases hk
  rw[F1 this,A3 _ this];exact hk) (h K i hx))
theorem C2d{Q}(f g:Fm)(q:FmFit f)(r:FmFit g)(G:VOk f)(I:VOk g)(J:E3 f=true)(L:E3 g=true)(hm:meetL (D9.intsL [f,g]) (C7.boolsL [f,g])=false)(hl:(upS (D9.intsL [f,g])).length+(upS (C7.boolsL [f,g])).length≤12)(H:Heap)(h:Q (.int .i64 0) H):
  D8 83 [.agg (B9 f),.agg (B9 g)] H Q:=by
 refine A8 [] A5 Tryz.func83 rfl ?_;simp only[go_sem,seval,Tryz.results83];intro i M j o;simp only[A6]at o;have p:i≠j:=fun e=>o.1 e.symm;have u:((H.set i (.box (B9 f))).set j (.box (B9 g))) i=some (.box (B9 f)):=by rw[A3 _ p,A0]
 have y:((H.set i (.box (B9 f))).set j (.box (B9 g))) j=some (.box (B9 g)):=A0 _ _;have m:H.Le ((H.set i (.box (B9 f))).set j (.box (B9 g))):=(A2 M).trans (A2 (by simp only[A6];exact o));generalize (H.set i (.box (B9 f))).set j (.box (B9 g))=Bs at u y m⊢;have z:=fun(Q:D→Heap→Prop) (H:Heap)=>S4 (Q:=Q) f q G H;have A:=fun(Q:D→Heap→Prop) (H:Heap)=>S4 (Q:=Q) g r I H;rw[J]at z;rw[L]at A;have O:(D2 tt (K1 (D9.intsL [f,g]))).length=(upS (D9.intsL [f,g])).length:=by rw[show (D2 tt (K1 (D9.intsL [f,g]))).length=(K1 (D9.intsL [f,g])).length by simp[D2],A4A]
 have T:(D2 tt (K1 (C7.boolsL [f,g]))).length=(upS (C7.boolsL [f,g])).length:=by rw[show (D2 tt (K1 (C7.boolsL [f,g]))).length=(K1 (C7.boolsL [f,g])).length by simp[D2],A4A]
 have C:=fun(Q:D→Heap→Prop) (H:Heap)=>B3F (Q:=Q) (K1 (D9.intsL [f,g])) (K1 (C7.boolsL [f,g])) H;rw[A1m (l':=D9.intsL [f,g]) (m':=C7.boolsL [f,g]) (fun x=>G4 _ _) (fun x=>G4 _ _),hm]at C;have U: ¬((12:Int)<((upS (D9.intsL [f,g])).length:Int)+(upS (C7.boolsL [f,g])).length):=by omega
 repeat' (first|simp only[go_sem,seval,u,y]|(intro d;try simp only[A6]at d)|with_reducible refine z _ _ ?_|with_reducible refine A _ _ ?_)
 rename_i x;have hx:=d;clear d;refine S5 (es:=Rw B9 [f,g]) hx rfl ?_;refine A9l [f,g] (fun k hk=>by
  simp only[D11,D12,or_false]at hk;rcases hk with rfl|rfl
  ·exact q
  ·exact r) (by simp) _ ?_
 repeat' (first|with_reducible apply D1Z|simp only[go_sem,seval,O,T,U]|simp(disch:=omega) only[A4,C3]|with_reducible refine C _ _ ?_)
 exact D21 m h
end Go.Proofs.YtibphjonmikciaaGreatDoor
namespace Go.Fo
open Go Go.Av Go.Lexs Go.Lin
def Q8:Fm→List VlV→Bool
 | .mk o n l s ks,vs=>
  if o=1 then decide (n=1)
  else if o=2 then B2k l ((U7 l.k l.t vs).getD 0)
  else if o=3 then decide ((P9 vs s).getD 0=1)
  else if o=4 then !valH ks vs
  else if o=5 then valA ks vs
  else valE ks vs
where
 valH:List Fm→List VlV→Bool
 | [],_=>false
 |f::_,vs=>Q8 f vs
 valA:List Fm→List VlV→Bool
 | [],_=>true
 |f::fs,vs=>Q8 f vs&&valA fs vs
 valE:List Fm→List VlV→Bool
 | [],_=>false
 |f::fs,vs=>Q8 f vs||valE fs vs
theorem C1C(ks:List Fm)(vs:List VlV):Q8.valA ks vs=ks.all (Q8 · vs):=by
 induction ks with
 |nil=>rfl
 |cons f fs d=>rw[Q8.valA,d];rfl
theorem C1D(ks:List Fm)(vs:List VlV):Q8.valE ks vs=ks.any (Q8 · vs):=by
 induction ks with
 |nil=>rfl
 |cons f fs d=>rw[Q8.valE,d];rfl
theorem D0I{f:Fm}(vs:List VlV)(h:f.op=1):Q8 f vs=decide (f.n=1):=by
 obtain⟨o,n,l,s,ks⟩:=f;simp only[Fm.op]at h;subst h;rw[Q8,if_pos rfl];rfl
theorem D0J{f:Fm}(vs:List VlV)(h:f.op=2):Q8 f vs=B2k f.l ((U7 f.l.k f.l.t vs).getD 0):=by
 obtain⟨o,n,l,s,ks⟩:=f;simp only[Fm.op]at h;subst h;rw[Q8,if_neg (by decide),if_pos rfl];rfl
theorem D0K{f:Fm}(vs:List VlV)(h:f.op=3):Q8 f vs=decide ((P9 vs f.s).getD 0=1):=by
 obtain⟨o,n,l,s,ks⟩:=f;simp only[Fm.op]at h;subst h;rw[Q8,if_neg (by decide),if_neg (by decide),if_pos rfl];rfl
theorem D0L{f k:Fm}(vs:List VlV)(h:f.op=4)(hk:f.ks= [k]):Q8 f vs= !Q8 k vs:=by
 obtain⟨o,n,l,s,ks⟩:=f;simp only[Fm.op]at h;simp only[Fm.ks]at hk;subst h;subst hk;rw[Q8,if_neg (by decide),if_neg (by decide),if_neg (by decide),if_pos rfl];rfl
theorem D0M{f:Fm}(vs:List VlV)(h:f.op=5):Q8 f vs=f.ks.all (Q8 · vs):=by
 obtain⟨o,n,l,s,ks⟩:=f;simp only[Fm.op]at h;subst h;rw[Q8,if_neg (by decide),if_neg (by decide),if_neg (by decide),if_neg (by decide),if_pos rfl,C1C];rfl
theorem D0N{f:Fm}(vs:List VlV)(h:f.op=6):Q8 f vs=f.ks.any (Q8 · vs):=by
 obtain⟨o,n,l,s,ks⟩:=f;simp only[Fm.op]at h;subst h;rw[Q8,if_neg (by decide),if_neg (by decide),if_neg (by decide),if_neg (by decide),if_neg (by decide),C1D];rfl
def A7T(f:Fm)(vs:List VlV):Bool:=(ivF f).all (fun s=>(P9 vs s).isSome)&&(bvF f).all (fun s=>(P9 vs s).isSome)
def bits(f:Fm)(vs:List VlV):Bool:=(bvF f).all fun s=>decide ((P9 vs s).getD 0=0)||decide ((P9 vs s).getD 0=1)
def atF(f:Fm)(vs:List VlV):Bool×Int:=
 if E3 f=true∧N8 vs=true then(if A7T f vs=true then(if bits f vs=true then(Q8 f vs,0)else(false,20))else(false,13))else(false,2)
theorem A5D(f:Fm)(vs:List VlV):A7T f vs=true↔∀s,s∈D9 f∨s∈C7 f→(P9 vs s).isSome=true:=by
 unfold A7T ivF bvF;simp only[D1m,D2A,U2];constructor
 ·rintro⟨h1,d⟩ s (h|h);exact h1 s h;exact d s h
 ·intro h;exact⟨fun s hs=>h s (.inl hs),fun s hs=>h s (.inr hs)⟩
theorem B1y(f:Fm)(vs:List VlV):bits f vs=true↔∀s∈C7 f,(P9 vs s).getD 0=0∨(P9 vs s).getD 0=1:=by
 unfold bits bvF;simp only[D2A,U2,D2w,D1v]
def nX:ByteArray:=⟨#[120]⟩
def nB:ByteArray:=⟨#[98]⟩
def fxL(k:Int)(e:Bool):Fm:=A24 ⟨[⟨nX,1⟩],k,e⟩
def fxV:Fm:=.mk 3 0 nilL nB []
def A5E:Fm:=.mk 4 0 nilL D3 [fxV]
def A1O(l:List Fm):Fm:=.mk 5 0 nilL D3 l
def fxF:Fm:=A1O [fxL (-1) false,.mk 6 0 nilL D3 [fxL (-3) true,A5E]]
def fxP:Fm:=fxL 0 false
def fxN:Fm:=normF fxF true
def fxA:Fm:=A1O [fxF,fxN]
def fxS:Fm:=A1O [fxF,A5E]
def fxVals:List VlV:=[⟨nB,0⟩,⟨nX,1⟩]
theorem A9u:C8 fxF= [38,40,120,45,49,62,61,48,44,32,124,40,120,45,51,61,48,44,32,33,63,98,41,41]:=by decide+kernel
theorem B1z:C8 fxP= [120,62,61,48]:=by decide+kernel
theorem B8w:C8 fxN= [124,40,45,120,62,61,48,44,32,38,40,124,40,120,45,52,62,61,48,44,32,45,120,43,50,62,61,48,41,44,32,63,98,41,41]:=by decide+kernel
theorem R8:E3 fxF=true∧E3 fxP=true∧E3 fxN=true∧E3 fxA=true:=by decide+kernel
theorem A5F:Y4 fxF []=some true∧Y4 fxA []=some false∧Y4 (A1O [fxF,normF fxP true]) []=some false∧Y4 (A1O [fxF,normF fxF true]) []=some false∧Y4 fxS []=some true:=by decide+kernel
theorem C1E:B67 (fun more=>Y4 fxS more) nX=some 1:=by decide+kernel
theorem C74:atF fxF fxVals=(true,0):=by decide+kernel
theorem B4W:ivF fxF= [nX]∧bvF fxF= [nB]:=by decide+kernel
theorem C42:B7b fxF=(fxN,0):=by
 unfold B7b;rw[if_pos R8.1,if_pos (show E3 (normF fxF true)=true from R8.2.2.1)];rfl
theorem B4X:meetL (D9.intsL [fxF,fxN]) (C7.boolsL [fxF,fxN])=false∧meetL (D9.intsL []) (C7.boolsL [])=false:=by decide+kernel
theorem C43:A2U 5 [fxF,fxN]=(fxA,0):=by
 unfold A2U;rw[if_pos (by simp only[D2c,List.all_nil,R8.1,R8.2.2.1,Bool.and_true]),B4X.1,if_neg (by decide),if_pos (show E3 (.mk 5 0 nilL D3 [fxF,fxN])=true from R8.2.2.2)];rfl
theorem C44:E3 (.mk 6 0 nilL D3 [])=true:=by decide+kernel
theorem C75:A2U 6 []=(.mk 6 0 nilL D3 [],0):=by
 unfold A2U;rw[if_pos (show List.all [] E3=true from rfl),B4X.2,if_neg (by decide),if_pos C44]
def A5z(f:Fm):Bool:=G8 (fun g=>D5 g&&decide (g.ks.length≤1000)) f
theorem Y5: ∀f:Fm,A5z f=true→G8 D5 f=true∧FmFit f:=by
 intro f
 induction f using R4 with
 |h o n l s ks i=>
  intro h;unfold A5z at h;rw[A1k,D1m,D1m]at h;obtain⟨⟨h1,d⟩,e⟩:=h;have d:=D1a d;have e:=D2A.1 e;have d:ks.length≤1000:=d;have hk: ∀k∈ks,G8 D5 k=true∧FmFit k:=fun k hk=>i k hk (e k hk);have j:G8 D5 (.mk o n l s ks)=true:=by
   rw[A1k,D1m];exact⟨h1,D2A.2 fun k hm=>(hk k hm).1⟩
  refine⟨j,?_⟩;cases B7a h1 with
  |con n h=>exact .mk _ _ _ _ _ (by simp[S8]) (by rcases h with rfl|rfl<;>simp[S8]) A1o (by decide) (by simp) (by simp)
  |lin l h hp=>
   have ok:=K7 h;refine A2O ⟨by have:=ok.len;omega,fun t g=>?_,fun t g=>?_,?_⟩
   ·have:=A3X (N0 ok.t t g).1;omega
   ·have:=(N0 ok.t t g).2.2;unfold S8;omega
   ·have:=ok.k;unfold S8;omega
  |var s h=>exact .mk _ _ _ _ _ (by simp[S8]) (by simp[S8]) A1o (by have:=A3X (A7D h);omega) (by simp) (by simp)
  |not k=>exact T9 (by simp[S8]) (by simp) fun q hq=>(hk q hq).2
  |and ks=>exact T9 (by simp[S8]) (by omega) fun q hq=>(hk q hq).2
  |or ks=>exact T9 (by simp[S8]) (by omega) fun q hq=>(hk q hq).2
theorem C76{P:Program}{K:Env→Heap→Prop}{E:Env}{H:Heap}{d:List (Option Nat)}{ops:List Oper}(E0:Env)(H0:Heap)(hw:A1b E0 H0 E H)(h:Av.wpOps P d K ops E0 H0):A5S P d ops K E H (some .wk):=⟨E0,H0,hw,h⟩
theorem B5u{H0:Heap}{E j:Env}{x b sz:Nat}{es:List (List D)}{cs cs':List D}(m:Av.Sub j E)(hx:H0 x=none)(g:b≠x)(hl:cs.length=cs'.length)(o: ∀(i:Nat) d d',cs[i]? =some d→cs'[i]? =some d'→Fz x sz es d d'):
  A1b j (H0.set b (.box cs')) E ((H0.set x (.vec sz es)).set b (.box cs)):=by
 refine A5Q (b:=x) (sz:=sz) (es:=es) (by rw[A3 _ g.symm];exact A0 _ _) (B6p m) (fun k o' ho=>?_);by_cases hk:k=b
 ·subst hk;rw[A0]at ho;cases ho;exact⟨g,_,A0 _ _,.box _ _ _ hl o⟩
 ·rw[A3 _ hk]at ho;have h:k≠x:=fun e=>by rw[e,hx]at ho;cases ho
  exact⟨h,o',by rw[A3 _ hk,A3 _ h];exact ho,.same _⟩
theorem A9v{G H:Heap}{b sz:Nat}{es:List (List D)}{ob:Option Nat}{rd:List D}(q:OutIn G sz es ob H)(d:G b=none)(hb:H b=some (.box rd))(X:Av.Obj):OutIn G sz es ob (H.set b X):=by
 refine⟨fun k o hk=>?_,?_,q.2.2⟩
 ·have:k≠b:=fun e=>by rw[e,d]at hk;cases hk
  rw[A3 _ this];exact q.1 k o hk
 ·cases ob with
  |none=>exact q.2.1
  |some c=>
   have hc:H c=some (.vec sz es):=q.2.1;have:c≠b:=fun e=>by rw[e,hb]at hc;cases hc
   show (H.set b X) c=_;rw[A3 _ this];exact hc
theorem B8x(a b:Fm):Q0 (B9 a) 0 (B9 b)=B9 b:=by rw[O7 a];exact C0j _ _ _ _ _ _ _ _
theorem A8g{G d:Heap}{i y e sz:Nat}{ob:Option Nat}{es:List (List D)}{c rd:List D}{o:Av.Obj}(q:OutIn G sz es ob d)(g:d i=some (.box rd))(j:d y=none)(m:G e=none)(h:L5 (d.set y o) ob e=none):
  ((L5 (d.set y o) ob).set e (.vec sz (es++[c]))) i=some (.box rd)∧OutIn G sz (es++[c]) (some e) ((L5 (d.set y o) ob).set e (.vec sz (es++[c]))):=B8h q g j m h
def A5i:Fm:=fxL (-1) true
theorem A2V:A5z fxF=true∧A5z fxP=true∧A5z fxN=true∧A5z fxA=true∧A5z fxS=true∧A5z A5E=true∧A5z fxV=true∧A5z (A1O [fxF,normF fxP true])=true∧A5z (A1O [fxF,normF fxF true])=true∧A5z A5i=true:=by decide+kernel
theorem B10:J5 fxF≤1000∧J5 fxP≤1000∧J5 fxN≤1000∧J5 fxA≤1000:=by decide+kernel
theorem B8y:upS (D9 fxF++C7 fxF)= [nB,nX]:=by decide+kernel
theorem A7U:C7 fxF= [nB]∧nX≠nB∧G5 (B nX)=true:=by decide+kernel
theorem C77:nB∈K1 (C7 fxF)∧nX∉K1 (C7 fxF):=by
 rw[G4,G4,A7U.1];exact⟨by simp,by simp[A7U.2.1]⟩
theorem A9w:meetL (D9.intsL [fxF,fxP]) (C7.boolsL [fxF,fxP])=false∧(upS (D9.intsL [fxF,fxP])).length+(upS (C7.boolsL [fxF,fxP])).length≤12∧meetL (D9.intsL [fxF,fxF]) (C7.boolsL [fxF,fxF])=false∧(upS (D9.intsL [fxF,fxF])).length+(upS (C7.boolsL [fxF,fxF])).length≤12:=by decide+kernel
end Go.Fo
namespace Go.Proofs.YtibphjonmikciaaGreatDoor
open Go Go.Av Go.Lexs Go.Lin Go.Fo
attribute [local irreducible] ACalls Q4
theorem B8z{Q}(f:Fm)(d:FmFit f)(g:VOk f)(hv:E3 f=true)(b:Bool)(hs:Y4 f []=some b)(H:Heap)(h:Q (.tuple [.bool b,.int .i64 0]) H):D8 31 [.agg (B9 f)] H Q:=by
 refine A8 [] A5 Tryz.func31 rfl ?_;simp only[go_sem,seval,Tryz.results31];have e:=fun(Q:D→Heap→Prop) (H:Heap)=>S4 (Q:=Q) f d g H;rw[hv]at e;repeat' (first|simp only[go_sem,seval]|intro i|with_reducible refine e _ _ ?_)
 refine A0n 3 ?_;refine A4O f (M5 hv) d [] (by simp) b hs _ ?_;repeat' simp only[go_sem,seval]
 exact D21 (A2 (by assumption)) h
theorem C1F{Q}(f g:Fm)(p:FmFit f)(q:FmFit g)(z:VOk f)(A:VOk g)(r:E3 f=true)(u:E3 g=true)(hm:meetL (D9.intsL [f,g]) (C7.boolsL [f,g])=false)(hl:(upS (D9.intsL [f,g])).length+(upS (C7.boolsL [f,g])).length≤12)
  (b:Bool) (hs:Y4 (.mk 5 0 nilL D3 [f,normF g true]) []=some b) (hn:G8 D5 (.mk 5 0 nilL D3 [f,normF g true])=true) (H:Heap) (h:Q (.tuple [.bool (!b),.int .i64 0]) H):D8 37 [.agg (B9 f),.agg (B9 g)] H Q:=by
 refine A8 [] A5 Tryz.func37 rfl ?_;simp only[go_sem,seval,Tryz.results37];intro d C i m;simp only[A6]at m;have o:d≠i:=fun e=>m.1 e.symm;have x:((H.set d (.box (B9 f))).set i (.box (B9 g))) d=some (.box (B9 f)):=by rw[A3 _ o,A0]
 have y:((H.set d (.box (B9 f))).set i (.box (B9 g))) i=some (.box (B9 g)):=A0 _ _;have j:H.Le ((H.set d (.box (B9 f))).set i (.box (B9 g))):=(A2 C).trans (A2 (by simp only[A6];exact m));generalize (H.set d (.box (B9 f))).set i (.box (B9 g))=Bs at x y j⊢;repeat' (first|simp only[go_sem,seval,x,y]|with_reducible refine C2d f g p q z A r u hm hl _ ?_|with_reducible refine A8f f g (M5 r) p (M5 u) q b hs hn _ ?_)
 exact D21 j h
theorem C1G{Q}(f:Fm)(j:FmFit f)(q:VOk f)(m:E3 f=true)(hm:meetL (D9.intsL [f,f]) (C7.boolsL [f,f])=false)(hl:(upS (D9.intsL [f,f])).length+(upS (C7.boolsL [f,f])).length≤12)
  (hs:Y4 (.mk 5 0 nilL D3 [f,normF f true]) []=some false) (hn:G8 D5 (.mk 5 0 nilL D3 [f,normF f true])=true) (H:Heap) (h:Q (.tuple [.bool true,.int .i64 0]) H):D8 38 [.agg (B9 f),.agg (B9 f)] H Q:=by
 refine A8 [] A5 Tryz.func38 rfl ?_;simp only[go_sem,seval,Tryz.results38];intro d y g o;simp only[A6]at o;have p:d≠g:=fun e=>o.1 e.symm;have r:((H.set d (.box (B9 f))).set g (.box (B9 f))) d=some (.box (B9 f)):=by rw[A3 _ p,A0]
 have u:((H.set d (.box (B9 f))).set g (.box (B9 f))) g=some (.box (B9 f)):=A0 _ _;have i:H.Le ((H.set d (.box (B9 f))).set g (.box (B9 f))):=(A2 y).trans (A2 (by simp only[A6];exact o));generalize (H.set d (.box (B9 f))).set g (.box (B9 f))=Bs at r u i⊢;have x:=fun(Q:D→Heap→Prop) (H:Heap)=>A8f (Q:=Q) f f (M5 m) j (M5 m) j false hs hn H;simp only[D2y]at x;repeat' (first|simp only[go_sem,seval,r,u]|with_reducible refine C2d f f j j q q m m hm hl _ ?_|with_reducible refine x _ _ ?_)
 exact D21 i h
theorem B11{Q}(so g:Fm)(o:Nat)(H:Heap)(r:H o=some (.box (B9 so)))(h:Q (.agg (B9 (A1O [so,g]))) H):D8 74 [.agg (B9 g),.box o 0] H Q:=by
 refine A8 [] A5 Tryz.func74 rfl ?_;simp only[go_sem,seval,Tryz.results74];intro d u i m;simp only[A6]at m;have y:d≠i:=fun e=>m.1 e.symm;have z:o≠d:=fun e=>by rw[←e,r]at u;cases u
 have A:o≠i:=fun e=>by rw[←e,r]at m;cases m.2
 obtain⟨Z,C⟩: ∃Z:List D,Z= [.int .i64 0,.int .i64 0,.nilsl,.int .i64 0,.bool false,.str ⟨#[]⟩,.nilsl]:=⟨_,rfl⟩
 rw[←C];have G:((H.set d (.box (B9 g))).set i (.box Z)) d=some (.box (B9 g)):=by rw[A3 _ y,A0]
 have q:((H.set d (.box (B9 g))).set i (.box Z)) i=some (.box Z):=A0 _ _;have I:((H.set d (.box (B9 g))).set i (.box Z)) o=some (.box (B9 so)):=by rw[A3 _ A,A3 _ z];exact r
 have p:H.Le ((H.set d (.box (B9 g))).set i (.box Z)):=(A2 u).trans (A2 (by simp only[A6];exact m));generalize (H.set d (.box (B9 g))).set i (.box Z)=Bs at G q I p⊢;rw[C]at q;repeat' (first|simp only[go_sem,seval,G,q,I]|simp(disch:=first|omega|grind) only[B3]|(intro j;try simp only[A6]at j))
 rename_i x;have hx:=j;clear j;exact B3G (es:=[B9 so,B9 g]) [so,g] rfl rfl p m.2 q hx _ h
theorem B80{Q}(so:Fm)(e:G8 D5 so=true)(g:FmFit so)(more:List LinV)(hm:more.length≤1000)(b:Bool)(hs:Y4 so more=some b)(d:Nat)(H:Heap)(i:H d=some (.box (B9 so)))(h:Q (.bool b) H):D8 77 [.sl 3 (Rw E4 more),.box d 0] H Q:=by
 refine A8 [] A5 Tryz.func77 rfl ?_;simp only[go_sem,seval,Tryz.results77];repeat' (first|simp only[go_sem,seval,i]|with_reducible refine A4O so e g more hm b hs _ ?_)
 exact D22 h
abbrev vW:List D:=[.int .i64 3,.int .i64 0,.nilsl,.int .i64 0,.bool false,.str nB,.nilsl]
abbrev noW(d:D):List D:=[.int .i64 4,.int .i64 0,.nilsl,.int .i64 0,.bool false,.str ⟨#[]⟩,d]
theorem C45:NilR (.agg (noW (.sl 7 [vW]))) (.agg (B9 A5E)):=by
 rw[show B9 A5E= [.int .i64 4,.int .i64 0,.sl 2 [],.int .i64 0,.bool false,.str ⟨#[]⟩,.sl 7 (Rw B9 [fxV])]from O7 _];refine B27 (.nil 2) (.sl 7 _ _ rfl (fun i e e' h1 m=>?_) (fun i e e' j d d' h1 m g h=>?_))
 ·match i with
  |0=>cases h1;cases m;rfl
  |i+1=>cases h1
 ·match i with
  |0=>
   cases h1;cases m;rw[show B9 fxV= [.int .i64 3,.int .i64 0,.sl 2 [],.int .i64 0,.bool false,.str nB,.sl 7 []]from O7 _]at h
   match j with
   |0=>cases g;cases h;exact .same _
   |1=>cases g;cases h;exact .same _
   |2=>cases g;cases h;exact .nil 2
   |3=>cases g;cases h;exact .same _
   |4=>cases g;cases h;exact .same _
   |5=>cases g;cases h;exact .same _
   |6=>cases g;cases h;exact .nil 7
   |j+7=>cases g
  |i+1=>cases h1
theorem C2e{Q}(so:Fm)(e:Nat)(H:Heap)(j:H e=some (.box (B9 so)))(h:Q (.agg (B9 (A1O [so,A5E]))) H):D8 74 [.agg (noW (.sl 7 [vW])),.box e 0] H Q:=by
 refine V5 (args':=[.agg (B9 A5E),.box e 0]) rfl (fun i d d' h1 g=>?_) (B11 so A5E e H j h)
 match i with
 |0=>cases h1;cases g;exact C45
 |1=>cases h1;cases g;exact .same _
 |i+2=>cases h1
theorem L1:E3 fxF=true∧FmFit fxF∧VOk fxF∧G8 D5 fxF=true:=⟨R8.1,(Y5 _ A2V.1).2,.inl (by have:=B10.1;omega),(Y5 _ A2V.1).1⟩
def D0O:Nat→Fm
 |0=>fxF
 |1=>fxS
 |_=>A1O [fxS,A5i]
set_option maxHeartbeats 4000000 in
theorem B81{Q}(H:Heap)(h:Q (.tuple [.sl 2 (Rw vlC fxVals),.int .i64 0]) H):D8 32 [.agg (B9 fxF)] H Q:=by
 refine A8 [(15,.wk)] A5 Tryz.func32 rfl ?_;simp only[go_sem,seval,Tryz.results32];obtain⟨hv,fa,vo,b4⟩:=L1;have vc:=fun(Q:D→Heap→Prop) (H:Heap)=>S4 (Q:=Q) fxF fa vo H;rw[hv]at vc;intro b1 h1;have e1:(H.set b1 (.box (B9 fxF))) b1=some (.box (B9 fxF)):=A0 _ _;have U:H.Le (H.set b1 (.box (B9 fxF))):=A2 h1;have W:=A5F.1;have a4:=C1E;have a5:=A5F.2.2.2.2;have a6:=C77;have V:=B8y;have u:=A2V;generalize hF:fxF=F at e1 U vc hv fa vo b4 W a6 V⊢;generalize H.set b1 (.box (B9 F))=Bs at e1 U⊢;repeat' (first|simp only[go_sem,seval,e1]|with_reducible refine vc _ _ ?_)
 refine A0n 3 ?_;refine A4O F b4 fa [] (by simp) true W _ ?_;repeat' (first|simp only[go_sem,seval,e1]|(intro g;try simp only[A6]at g))
 rename_i x;have hx:=g;clear g;refine A4J hx F fa rfl ?_;repeat' (first|simp only[go_sem,seval,e1]|(intro g;try simp only[A6]at g))
 rename_i m;have h7:=g;clear g;have d0:b1≠m:=fun e=>by rw[←e,e1]at h7;cases h7
 have c7:(Bs.set m (.box (B9 F))) m=some (.box (B9 F)):=A0 _ _;have Y:H.Le (Bs.set m (.box (B9 F))):=U.trans (A2 h7);have b6:H m=none:=U.none h7;generalize Bs.set m (.box (B9 F))=Cs at c7 Y⊢;refine B8v _ _ (A1l _) _ fun K hK a9=>?_;have d2:K.length≤2:=by
  have:K.length= [nB,nX].length:=((List.perm_ext_iff_of_nodup hK (by decide+kernel)).2 fun y=>by rw[a9,G4,G4,←D1z,←U2,V]).length_eq;have d3: [nB,nX].length=2:=rfl;omega
 repeat' simp only[go_sem,seval]
 refine A9m _ _ fun bk b0=>?_;repeat' simp only[go_sem,seval]
 refine A9n bk tt K (by omega) (fun s hs=>by
  have:s∈[nB,nX]:=by rw[←V,U2,D1z,←G4,←G4 (C7 F),←a9];exact hs
  simp only[D11,D12,or_false]at this;rcases this with rfl|rfl<;>decide) _ (A0 _ _) fun v c1 hm=>?_
 have ev:v= [nB,nX]:=by
  rw[←V];exact A6u c1 (A9Y _) fun s=>by rw[hm,a9,G4,G4,U2,D1z]
 rw[ev];have c2:m≠bk:=fun e=>by rw[←e,c7]at b0;cases b0
 have I:(Cs.set bk (.box [.fm (D2 tt K)])) m=some (.box (B9 F)):=by rw[A3 _ c2];exact c7
 have a0:H.Le (Cs.set bk (.box [.fm (D2 tt K)])):=Y.trans (A2 b0);generalize Cs.set bk (.box [.fm (D2 tt K)])=Ds at I a0⊢;have hlen:(Rw L7 [nB,nX]).length=2:=rfl;repeat' simp only[go_sem,seval,hlen]
 refine C2 [5,7,8,31,32] (fun(p:Nat×Option Nat×Heap)=>[(33,.int .i64 p.1),(6,J8 2 p.1 p.2.1)]) (fun(p:Nat×Option Nat×Heap)=>p.2.2) (fun(p:Nat×Option Nat×Heap)=>p.1≤2∧p.2.2 m=some (.box (B9 (D0O p.1)))∧OutIn H 2 (Rw vlC (fxVals.take p.1)) p.2.1 p.2.2) (fun(p:Nat×Option Nat×Heap)=>2-p.1) ((0,none,Ds)) (⟨D1u _,by show Ds m=_;rw[I,←hF];rfl,a0,rfl,fun _ e=>(by cases e)⟩) (by simp only[go_sem,seval]) (D20 _) ?_;rintro Ec rfl ⟨k,ob,Hp⟩ ⟨hk,A,J⟩;simp only at hk A J
 match k,hk,A,J with
 |0,hk,A,J=>
  have r0:(Rw L7 [nB,nX]).getD 0 []= [.str nB]:=rfl;repeat' (first|simp only[go_sem,seval,r0,A,A2u,if_pos a6.1]|(intro g;try simp only[A6]at g))
  rename_i j o x hx q;have r:=g;clear g;have c7: ∀X:Av.Obj,((Hp.set j (.box [.str nB,.int .i64 0])).set q X) m=some (.box (B9 fxF)):=fun X=>by
   rw[A3 _ (fun e=>by rw[←e,A]at r;cases r.2.2),A3 _ (fun e=>by rw[←e,A]at o;cases o)];exact A
  have c3: ∀X:Av.Obj,((Hp.set j (.box [.str nB,.int .i64 0])).set q X) j=some (.box [.str nB,.int .i64 0]):=fun X=>by
   rw[A3 _ (fun e=>by rw[e]at r;exact r.2.1 rfl)];exact A0 _ _
  have c4:=(J.set o (.box [.str nB,.int .i64 0])).set (b:=q) (A6.2 ⟨r.2.1,r.2.2⟩);refine C76 [(5,.fm (D2 tt (K1 (C7 F)))),(7,.box m 0),(8,.fn (.func 74) [] [.box m 0]),(31,.sl 1 (Rw L7 [nB,nX])),(32,.int .i64 2),(33,.int .i64 0),(6,J8 2 0 ob),(10,.str nB),(11,.box j 0),(12,.box q 0)] ((Hp.set j (.box [.str nB,.int .i64 0])).set q (.box (noW (.sl 7 [vW])))) (B5u (cs:=noW (.vec x 7 0 1)) (by simp only[go_sem,seval]) (A6.2 hx) r.1 rfl (fun i d d' h1 h2=>?_)) ?_
  ·match i with
   |0=>cases h1;cases h2;exact .same _
   |1=>cases h1;cases h2;exact .same _
   |2=>cases h1;cases h2;exact .same _
   |3=>cases h1;cases h2;exact .same _
   |4=>cases h1;cases h2;exact .same _
   |5=>cases h1;cases h2;exact .same _
   |6=>cases h1;cases h2;exact .all
   |i+7=>cases h1
  have I:=c7 (.box (noW (.sl 7 [vW])));have C:=c3 (.box (noW (.sl 7 [vW])));have d12:((Hp.set j (.box [.str nB,.int .i64 0])).set q (.box (noW (.sl 7 [vW])))) q=some (.box (noW (.sl 7 [vW]))):=A0 _ _;have L:=c4 (.box (noW (.sl 7 [vW])));have M:m≠j:=fun e=>by rw[←e,A]at o;cases o
  generalize (Hp.set j (.box [.str nB,.int .i64 0])).set q (.box (noW (.sl 7 [vW])))=T at I C d12 L⊢;repeat' (first|simp only[go_sem,seval,d12]|with_reducible refine C2e fxF m T I ?_)
  refine A0n 3 ?_;refine A4O fxS (Y5 _ u.2.2.2.2.1).1 (Y5 _ u.2.2.2.2.1).2 [] (by simp) true a5 _ ?_;repeat' (first|simp only[go_sem,seval,I,C,d12,B8x]|simp(disch:=first|omega|grind) only[B3]|(intro g;try simp only[A6]at g)|with_reducible refine C2e fxF m T I ?_)
  rename_i y;have hy:(T.set m (.box (B9 (A1O [fxF,A5E])))) y=none:=A6.2 g;clear g;have f7:(T.set m (.box (B9 (A1O [fxF,A5E])))) m=some (.box (B9 (A1O [fxF,A5E]))):=A0 _ _;have G:=A9v L b6 I (.box (B9 (A1O [fxF,A5E])));generalize T.set m (.box (B9 (A1O [fxF,A5E])))=Gt at f7 hy G⊢;refine B6o (G.set hy _) (by simp) rfl (by simp) (by simp) fun b' b2 b3 b8=>?_;obtain⟨g7,O⟩:=A8g (c:=[.str nB,.int .i64 0]) G f7 hy b2 b3;repeat' (first|simp only[go_sem,seval]|simp(disch:=omega) only[A4,C3])
  exact C1 (1,some b',_) ⟨by simp,g7,O⟩ (by simp) (by simp only[go_sem,seval]) (D20 _)
 |1,hk,A,J=>
  have r1:(Rw L7 [nB,nX]).getD 1 []= [.str nX]:=rfl;repeat' (first|simp only[go_sem,seval,r1,A,A2u,if_neg a6.2]|(intro g;try simp only[A6]at g))
  rename_i j;have o:=g;clear g;have M:m≠j:=fun e=>by rw[←e,A]at o;cases o
  have I:(Hp.set j (.box [.str nX,.int .i64 0])) m=some (.box (B9 fxS)):=by rw[A3 _ M];exact A
  have C:(Hp.set j (.box [.str nX,.int .i64 0])) j=some (.box [.str nX,.int .i64 0]):=A0 _ _;have L:=J.set o (.box [.str nX,.int .i64 0]);generalize Hp.set j (.box [.str nX,.int .i64 0])=T at I C L⊢;refine B5W (fun more=>Y4 fxS more) nX A7U.2.2 77 [.box m 0] T (fun more bb c5 c9 d4 H' Q c6 hq=>B80 fxS (Y5 _ u.2.2.2.2.1).1 (Y5 _ u.2.2.2.2.1).2 more (by omega) bb c5 m H' (c6 _ _ I) hq) 1 a4 ?_;repeat' (first|simp only[go_sem,seval,C]|simp(disch:=omega) only[A4,C3]|simp(disch:=first|omega|grind) only[B3]|(intro g;try simp only[A6]at g))
  rename_i z;have hz:=g;clear g;have b9:H j=none:=J.1.none o;have f7:(T.set j (.box [.str nX,.int .i64 1])) m=some (.box (B9 fxS)):=by rw[A3 _ M];exact I
  have c0:(T.set j (.box [.str nX,.int .i64 1])) j=some (.box [.str nX,.int .i64 1]):=A0 _ _;have G:=A9v L b9 C (.box [.str nX,.int .i64 1]);refine A50 (A0 _ _) rfl ?_;rw[E6 (A6.2 hz)];generalize T.set j (.box [.str nX,.int .i64 1])=Gt at f7 c0 G⊢;refine A5A ⟨[⟨nX,1⟩],-1,true⟩ _ ?_;repeat' simp only[go_sem,seval]
  refine B11 fxS A5i m Gt f7 ?_;repeat' (first|simp only[go_sem,seval,f7,c0,B8x]|simp(disch:=first|omega|grind) only[B3]|(intro g;try simp only[A6]at g))
  rename_i y;have hy:(Gt.set m (.box (B9 (A1O [fxS,A5i])))) y=none:=A6.2 g;clear g;have g7:(Gt.set m (.box (B9 (A1O [fxS,A5i])))) m=some (.box (B9 (A1O [fxS,A5i]))):=A0 _ _;have O:=A9v G b6 f7 (.box (B9 (A1O [fxS,A5i])));generalize Gt.set m (.box (B9 (A1O [fxS,A5i])))=Gu at g7 hy O⊢;refine B6o (O.set hy _) (by simp) rfl (by simp) (by simp) fun b' b2 b3 b8=>?_;obtain⟨k7,c8⟩:=A8g (c:=[.str nX,.int .i64 1]) O g7 hy b2 b3;repeat' (first|simp only[go_sem,seval]|simp(disch:=omega) only[A4,C3])
  exact C1 (2,some b',_) ⟨by simp,k7,c8⟩ (by simp) (by simp only[go_sem,seval]) (D20 _)
 |2,hk,A,J=>
  repeat' simp only[go_sem,seval]
  have e2:fxVals.take 2=fxVals:=rfl;rw[e2]at J;refine A7a (n:=2) rfl J.2.1 (D21 J.le h)
 |k+3,hk,_,_=>omega
end Go.Proofs.YtibphjonmikciaaGreatDoor
namespace Go.Av
theorem A2Z{b sz:Nat}{es:List (List D)}{d:D}{H H':Heap}{Q:D→Heap→Prop}(hb:H b=some (.vec sz es))
  (A: ∀k o',H' k=some o'→k≠b∧∃o,H k=some o∧OFz b sz es o o') (h:Fin Q d H'):Fin Q d H:=by
 unfold Fin at h⊢;obtain⟨V,d1,h1,x⟩:=h;refine⟨V,d1,Shift.trans (fun w v hr hs=>?_) h1,x⟩;have e: ∀k,H.held k=false→H'.held k=false:=fun k hk=>by
  cases ho:H' k with
  |none=>exact I0 ho
  |some o'=>
   obtain⟨_,o,h1,x⟩:=A k o' ho;rw[J6 h1]at hk;rw[J6 ho];cases x<;>exact hk
 have C: ∀{d d':D} {v:Value},Fz b sz es d d'→R w H d v→R w H' d' v:=fun q hr=>(q.R hs hb hr).mono (D26 _ _) fun k _ hk=>by
  by_cases y:k=b
  ·subst y;cases ho:H' k with
   |none=>exact I0 ho
   |some o'=>exact absurd rfl (A k o' ho).1
  ·refine e k ?_;rw[←A0b (H:=H) (H':=H.del b) (k:=k) (by unfold Heap.del;rw[if_neg y])];exact hk
 refine⟨C (.same d) hr,fun k o' ho=>?_,e⟩;obtain⟨_,o,h1,x⟩:=A k o' ho;have r:=hs k o h1;cases x with
 |same=>exact r.mono (D26 H w) (fun k _ hk=>e k hk) rfl
 |box cs cs' Z hl q=>
  obtain⟨c,T,lo,G,I,J,O,z,L⟩:=r;refine⟨c,T,lo,G,I,J,by omega,fun j d' m=>?_,L⟩;have W:=(D1j.1 m).1;have u:cs[j]? =some (cs[j]'(by omega)):=D1q _;have p:=q j _ _ u m;exact⟨p.one (z j _ u).1,C p (z j _ u).2⟩
 |vec s xs xs' hl q=>
  obtain⟨c,T,lo,G,I,J,O,z,L,U⟩:=r;refine⟨c,T,lo,G,I,J,O,by rw[←hl];exact z,fun i x' g=>?_,fun i x' j d' g m=>?_⟩
  ·have M:=(D1j.1 g).1;have hx:xs[i]? =some (xs[i]'(by omega)):=D1q _;rw[←(q i _ _ hx g).1];exact L i _ hx
  ·have M:=(D1j.1 g).1;have hx:xs[i]? =some (xs[i]'(by omega)):=D1q _;have hlen:=(q i _ _ hx g).1;have W:=(D1j.1 m).1;have u:(xs[i]'(by omega))[j]? =some ((xs[i]'(by omega))[j]'(by omega)):=D1q _;have p:=(q i _ _ hx g).2 j _ _ u m;exact⟨p.one (U i _ j _ hx u).1,C p (U i _ j _ hx u).2⟩
def fzD(b sz:Nat)(es:List (List D)):D→D→Prop
 |d,d'=>d=d'∨(d= .vec b sz 0 es.length∧d'= .sl sz es)
theorem C46{b sz:Nat}{es:List (List D)}{d d':D}(h:fzD b sz es d d'):Fz b sz es d d':=by
 rcases h with rfl|⟨rfl,rfl⟩
 ·exact .same _
 ·exact .all
def fzL(b sz:Nat)(es:List (List D)):List D→List D→Prop
 | [],[]=>True
 |d::l,d'::l'=>fzD b sz es d d'∧fzL b sz es l l'
 |_,_=>False
theorem A9x{b sz:Nat}{es:List (List D)}: ∀{l l':List D},fzL b sz es l l'→l.length=l'.length∧∀(i:Nat) d d',l[i]? =some d→l'[i]? =some d'→Fz b sz es d d'
 | [],[],_=>⟨rfl,fun i d d' h=>by cases h⟩
 |d::l,d'::l',h=>by
  obtain⟨h1,g⟩:=A9x h.2;refine⟨by rw[D1e,D1e,h1],fun i x x' hx e=>?_⟩;cases i with
  |zero=>cases hx;cases e;exact C46 h.1
  |succ i=>exact g i x x' hx e
 | [],_::_,h=>h.elim
 |_::_,[],h=>h.elim
def fzV(b sz:Nat)(es:List (List D)):List (List D)→List (List D)→Prop
 | [],[]=>True
 |d::l,d'::l'=>fzL b sz es d d'∧fzV b sz es l l'
 |_,_=>False
theorem A9y{b sz:Nat}{es:List (List D)}: ∀{l l':List (List D)},fzV b sz es l l'→l.length=l'.length∧∀(i:Nat) x x',l[i]? =some x→l'[i]? =some x'→x.length=x'.length∧∀(j:Nat) d d',x[j]? =some d→x'[j]? =some d'→Fz b sz es d d'
 | [],[],_=>⟨rfl,fun i d d' h=>by cases h⟩
 |d::l,d'::l',h=>by
  obtain⟨h1,g⟩:=A9y h.2;refine⟨by rw[D1e,D1e,h1],fun i x x' hx e=>?_⟩;cases i with
  |zero=>cases hx;cases e;exact A9x h.1
  |succ i=>exact g i x x' hx e
 | [],_::_,h=>h.elim
 |_::_,[],h=>h.elim
theorem A21{b sz c s:Nat}{es xs xs':List (List D)}{H G:Heap}(hc:H c=some (.vec s xs))(d:c≠b)(g:fzV b sz es xs xs')(h: ∀k o',G k=some o'→k≠b∧∃o,H k=some o∧OFz b sz es o o'):
  ∀k o',(G.set c (.vec s xs')) k=some o'→k≠b∧∃o,H k=some o∧OFz b sz es o o':=by
 intro k o' hk;by_cases e:k=c
 ·subst e;rw[A0]at hk;cases hk;exact⟨d,_,hc,.vec _ _ _ (A9y g).1 (A9y g).2⟩
 ·rw[A3 _ e]at hk;exact h k o' hk
theorem B82{b sz:Nat}{es:List (List D)}{H G:Heap}(h:G.Le H)(hb:G b=none): ∀k o',G k=some o'→k≠b∧∃o,H k=some o∧OFz b sz es o o':=fun k o' hk=>⟨fun e=>(by rw[e,hb]at hk;cases hk),o',h k o' hk,.same _⟩
def nlD:D→D→Prop
 |d,d'=>d=d'∨NilR d d'
def nlL:List D→List D→Prop
 | [],[]=>True
 |d::l,d'::l'=>nlD d d'∧nlL l l'
 |_,_=>False
theorem A6K: ∀{l l':List D},nlL l l'→l.length=l'.length∧∀(i:Nat) d d',l[i]? =some d→l'[i]? =some d'→NilR d d'
 | [],[],_=>⟨rfl,fun i d d' h=>by cases h⟩
 |d::l,d'::l',h=>by
  obtain⟨h1,g⟩:=A6K h.2;refine⟨by rw[D1e,D1e,h1],fun i x x' hx e=>?_⟩;cases i with
  |zero=>cases hx;cases e;rcases h.1 with rfl|q;exact .same _;exact q
  |succ i=>exact g i x x' hx e
 | [],_::_,h=>h.elim
 |_::_,[],h=>h.elim
def nlV:List (List D)→List (List D)→Prop
 | [],[]=>True
 |d::l,d'::l'=>nlL d d'∧nlV l l'
 |_,_=>False
theorem A6L: ∀{l l':List (List D)},nlV l l'→l.length=l'.length∧∀(i:Nat) x x',l[i]? =some x→l'[i]? =some x'→x.length=x'.length∧∀(j:Nat) d d',x[j]? =some d→x'[j]? =some d'→NilR d d'
 | [],[],_=>⟨rfl,fun i d d' h=>by cases h⟩
 |d::l,d'::l',h=>by
  obtain⟨h1,g⟩:=A6L h.2;refine⟨by rw[D1e,D1e,h1],fun i x x' hx e=>?_⟩;cases i with
  |zero=>cases hx;cases e;exact A6K h.1
  |succ i=>exact g i x x' hx e
 | [],_::_,h=>h.elim
 |_::_,[],h=>h.elim
theorem B83{z:Nat}{es es':List (List D)}(h:nlV es es'):NilR (.sl z es) (.sl z es'):=
 .sl z es es' (A6L h).1 (fun i e e' h1 g=>((A6L h).2 i e e' h1 g).1) fun i e e' j d d' h1 g m o=>((A6L h).2 i e e' h1 g).2 j d d' m o
theorem C47{cs cs':List D}(h:nlL cs cs'):NilR (.agg cs) (.agg cs'):=.agg _ _ (A6K h).1 (A6K h).2
end Go.Av
namespace Go.Proofs.YtibphjonmikciaaGreatDoor
open Go Go.Av Go.Lexs Go.Lin Go.Fo
attribute [local irreducible] ACalls Q4
theorem A8h{Q}(H:Heap)(h:Q (.agg (B9 fxF)) H):D8 44 [] H Q:=by
 refine A8 [] A5 Tryz.func44 rfl ?_;simp only[go_sem,seval,Tryz.results44];repeat' (first|simp only[go_sem,seval]|simp(disch:=first|omega|grind) only[B3,F1]|(intro m;try simp only[A6]at m))
 rename_i A J a L p hp q hq d1 h1 d C g;have u:=m;clear m;have i:a≠A∧a≠p∧a≠q∧a≠d1∧a≠d∧a≠g:=⟨L.1,hp.1.symm,hq.2.1.symm,h1.2.2.1.symm,C.2.2.2.1.symm,u.2.2.2.2.1.symm⟩
 have j:d1≠A∧d1≠d∧d1≠g:=⟨h1.2.2.2.1,C.1.symm,u.2.1.symm⟩
 have ne:d≠A∧d≠g:=⟨C.2.2.2.2.1,u.1.symm⟩
 have U:g≠A:=u.2.2.2.2.2.1;have T:H a=none:=L.2;have M:H d1=none:=h1.2.2.2.2;have G:H d=none:=C.2.2.2.2.2;have V:H p=none:=hp.2.2;have W:H q=none:=hq.2.2.2;have I:H g=none:=u.2.2.2.2.2.2;clear L hp hq h1 C u;refine A2Z (b:=a) (sz:=2) (es:=[[.str ⟨#[120]⟩,.int .i64 1]]) (by rw[A3 _ i.1,A3 _ i.2.2.2.2.2,A3 _ i.2.2.2.2.1,A3 _ i.2.2.2.1,A3 _ i.2.2.1,A3 _ i.2.1,A0]) (H':=((H.set d1 (.vec 7 [[.int .i64 3,.int .i64 0,.nilsl,.int .i64 0,.bool false,.str ⟨#[98]⟩,.nilsl]])).set d (.vec 7 ([[.int .i64 2,.int .i64 0,.sl 2 [[.str ⟨#[120]⟩,.int .i64 1]],.int .i64 (-3),.bool true,.str ⟨#[]⟩,.nilsl],[.int .i64 4,.int .i64 0,.nilsl,.int .i64 0,.bool false,.str ⟨#[]⟩,.vec d1 7 0 1]]))).set g (.vec 7 ([[.int .i64 2,.int .i64 0,.sl 2 [[.str ⟨#[120]⟩,.int .i64 1]],.int .i64 (-1),.bool false,.str ⟨#[]⟩,.nilsl],[.int .i64 6,.int .i64 0,.nilsl,.int .i64 0,.bool false,.str ⟨#[]⟩,.vec d 7 0 2]]))) ?_ ?_
 ·refine A21 (xs:=[[.int .i64 2,.int .i64 0,.vec a 2 0 1,.int .i64 (-1),.bool false,.str ⟨#[]⟩,.nilsl],[.int .i64 6,.int .i64 0,.nilsl,.int .i64 0,.bool false,.str ⟨#[]⟩,.vec d 7 0 2]]) (by rw[A3 _ U,A0]) i.2.2.2.2.2.symm (by simp[fzV,fzL,fzD]) (A21 (xs:=[[.int .i64 2,.int .i64 0,.vec a 2 0 1,.int .i64 (-3),.bool true,.str ⟨#[]⟩,.nilsl],[.int .i64 4,.int .i64 0,.nilsl,.int .i64 0,.bool false,.str ⟨#[]⟩,.vec d1 7 0 1]]) (by rw[A3 _ ne.1,A3 _ ne.2,A0]) i.2.2.2.2.1.symm (by simp[fzV,fzL,fzD]) (A21 (xs:=[[.int .i64 3,.int .i64 0,.nilsl,.int .i64 0,.bool false,.str ⟨#[98]⟩,.nilsl]]) (by rw[A3 _ j.1,A3 _ j.2.2,A3 _ j.2.1,A0]) i.2.2.2.1.symm (by simp[fzV,fzL,fzD]) (B82 ?_ T)));intro k o hk;by_cases O:k=A
  ·rw[O,J]at hk;cases hk
  ·have y: ∀x,H x=none→k≠x:=fun x hx e=>by rw[e,hx]at hk;cases hk
   rw[A3 _ O,A3 _ (y _ I),A3 _ (y _ G),A3 _ (y _ M),A3 _ (y _ W),A3 _ (y _ V),A3 _ (y _ T),A3 _ O];exact hk
 refine A2Z (b:=d1) (sz:=7) (es:=[[.int .i64 3,.int .i64 0,.nilsl,.int .i64 0,.bool false,.str ⟨#[98]⟩,.nilsl]]) (by rw[A3 _ j.2.2,A3 _ j.2.1,A0]) (H':=(H.set d (.vec 7 ([[.int .i64 2,.int .i64 0,.sl 2 [[.str ⟨#[120]⟩,.int .i64 1]],.int .i64 (-3),.bool true,.str ⟨#[]⟩,.nilsl],[.int .i64 4,.int .i64 0,.nilsl,.int .i64 0,.bool false,.str ⟨#[]⟩,.sl 7 [[.int .i64 3,.int .i64 0,.nilsl,.int .i64 0,.bool false,.str ⟨#[98]⟩,.nilsl]]]]))).set g (.vec 7 ([[.int .i64 2,.int .i64 0,.sl 2 [[.str ⟨#[120]⟩,.int .i64 1]],.int .i64 (-1),.bool false,.str ⟨#[]⟩,.nilsl],[.int .i64 6,.int .i64 0,.nilsl,.int .i64 0,.bool false,.str ⟨#[]⟩,.vec d 7 0 2]]))) ?_ ?_
 ·refine A21 (xs:=[[.int .i64 2,.int .i64 0,.sl 2 [[.str ⟨#[120]⟩,.int .i64 1]],.int .i64 (-1),.bool false,.str ⟨#[]⟩,.nilsl],[.int .i64 6,.int .i64 0,.nilsl,.int .i64 0,.bool false,.str ⟨#[]⟩,.vec d 7 0 2]]) (A0 _ _) j.2.2.symm (by simp[fzV,fzL,fzD]) (A21 (xs:=[[.int .i64 2,.int .i64 0,.sl 2 [[.str ⟨#[120]⟩,.int .i64 1]],.int .i64 (-3),.bool true,.str ⟨#[]⟩,.nilsl],[.int .i64 4,.int .i64 0,.nilsl,.int .i64 0,.bool false,.str ⟨#[]⟩,.vec d1 7 0 1]]) (by rw[A3 _ ne.2,A0]) j.2.1.symm (by simp[fzV,fzL,fzD]) (B82 ?_ M));exact(A2 M).trans ((A2 (by rw[A3 _ j.2.1.symm];exact G)).trans (A2 (by rw[A3 _ ne.2.symm,A3 _ j.2.2.symm];exact I)))
 refine A2Z (b:=d) (sz:=7) (es:=[[.int .i64 2,.int .i64 0,.sl 2 [[.str ⟨#[120]⟩,.int .i64 1]],.int .i64 (-3),.bool true,.str ⟨#[]⟩,.nilsl],[.int .i64 4,.int .i64 0,.nilsl,.int .i64 0,.bool false,.str ⟨#[]⟩,.sl 7 [[.int .i64 3,.int .i64 0,.nilsl,.int .i64 0,.bool false,.str ⟨#[98]⟩,.nilsl]]]]) (by rw[A3 _ ne.2,A0]) (H':=H.set g (.vec 7 ([[.int .i64 2,.int .i64 0,.sl 2 [[.str ⟨#[120]⟩,.int .i64 1]],.int .i64 (-1),.bool false,.str ⟨#[]⟩,.nilsl],[.int .i64 6,.int .i64 0,.nilsl,.int .i64 0,.bool false,.str ⟨#[]⟩,.sl 7 ([[.int .i64 2,.int .i64 0,.sl 2 [[.str ⟨#[120]⟩,.int .i64 1]],.int .i64 (-3),.bool true,.str ⟨#[]⟩,.nilsl],[.int .i64 4,.int .i64 0,.nilsl,.int .i64 0,.bool false,.str ⟨#[]⟩,.sl 7 [[.int .i64 3,.int .i64 0,.nilsl,.int .i64 0,.bool false,.str ⟨#[98]⟩,.nilsl]]]])]]))) ?_ ?_
 ·refine A21 (xs:=[[.int .i64 2,.int .i64 0,.sl 2 [[.str ⟨#[120]⟩,.int .i64 1]],.int .i64 (-1),.bool false,.str ⟨#[]⟩,.nilsl],[.int .i64 6,.int .i64 0,.nilsl,.int .i64 0,.bool false,.str ⟨#[]⟩,.vec d 7 0 2]]) (A0 _ _) ne.2.symm (by simp[fzV,fzL,fzD]) (B82 ?_ G);exact(A2 G).trans (A2 (by rw[A3 _ ne.2.symm];exact I))
 refine V7 (b:=g) (sz:=7) (es:=[[.int .i64 2,.int .i64 0,.sl 2 [[.str ⟨#[120]⟩,.int .i64 1]],.int .i64 (-1),.bool false,.str ⟨#[]⟩,.nilsl],[.int .i64 6,.int .i64 0,.nilsl,.int .i64 0,.bool false,.str ⟨#[]⟩,.sl 7 ([[.int .i64 2,.int .i64 0,.sl 2 [[.str ⟨#[120]⟩,.int .i64 1]],.int .i64 (-3),.bool true,.str ⟨#[]⟩,.nilsl],[.int .i64 4,.int .i64 0,.nilsl,.int .i64 0,.bool false,.str ⟨#[]⟩,.sl 7 [[.int .i64 3,.int .i64 0,.nilsl,.int .i64 0,.bool false,.str ⟨#[98]⟩,.nilsl]]]])]]) (cs':=[.int .i64 5,.int .i64 0,.nilsl,.int .i64 0,.bool false,.str ⟨#[]⟩,.sl 7 ([[.int .i64 2,.int .i64 0,.sl 2 [[.str ⟨#[120]⟩,.int .i64 1]],.int .i64 (-1),.bool false,.str ⟨#[]⟩,.nilsl],[.int .i64 6,.int .i64 0,.nilsl,.int .i64 0,.bool false,.str ⟨#[]⟩,.sl 7 ([[.int .i64 2,.int .i64 0,.sl 2 [[.str ⟨#[120]⟩,.int .i64 1]],.int .i64 (-3),.bool true,.str ⟨#[]⟩,.nilsl],[.int .i64 4,.int .i64 0,.nilsl,.int .i64 0,.bool false,.str ⟨#[]⟩,.sl 7 [[.int .i64 3,.int .i64 0,.nilsl,.int .i64 0,.bool false,.str ⟨#[98]⟩,.nilsl]]]])]])]) (A0 _ _) rfl (A9x (by simp[fzL,fzD])).2 ?_;refine D4 (d':=.agg (B9 fxF)) ?_ (D21 ?_ h)
 ·have e:B9 fxF= [.int .i64 5,.int .i64 0,.sl 2 [],.int .i64 0,.bool false,.str ⟨#[]⟩,.sl 7 ([[.int .i64 2,.int .i64 0,.sl 2 [[.str ⟨#[120]⟩,.int .i64 1]],.int .i64 (-1),.bool false,.str ⟨#[]⟩,.sl 7 []],[.int .i64 6,.int .i64 0,.sl 2 [],.int .i64 0,.bool false,.str ⟨#[]⟩,.sl 7 ([[.int .i64 2,.int .i64 0,.sl 2 [[.str ⟨#[120]⟩,.int .i64 1]],.int .i64 (-3),.bool true,.str ⟨#[]⟩,.sl 7 []],[.int .i64 4,.int .i64 0,.sl 2 [],.int .i64 0,.bool false,.str ⟨#[]⟩,.sl 7 [[.int .i64 3,.int .i64 0,.sl 2 [],.int .i64 0,.bool false,.str ⟨#[98]⟩,.sl 7 []]]]])]])]:=rfl;rw[e];have r: ∀z,NilR .nilsl (.sl z []):=NilR.nil;refine C47 ?_;refine⟨.inl rfl,.inl rfl,.inr (r _),.inl rfl,.inl rfl,.inl rfl,.inr (B83 ?_),trivial⟩;refine⟨⟨.inl rfl,.inl rfl,.inl rfl,.inl rfl,.inl rfl,.inl rfl,.inr (r _),trivial⟩,⟨.inl rfl,.inl rfl,.inr (r _),.inl rfl,.inl rfl,.inl rfl,.inr (B83 ?_),trivial⟩,trivial⟩;refine⟨⟨.inl rfl,.inl rfl,.inl rfl,.inl rfl,.inl rfl,.inl rfl,.inr (r _),trivial⟩,⟨.inl rfl,.inl rfl,.inr (r _),.inl rfl,.inl rfl,.inl rfl,.inr (B83 ?_),trivial⟩,trivial⟩;exact⟨⟨.inl rfl,.inl rfl,.inr (r _),.inl rfl,.inl rfl,.inl rfl,.inr (r _),trivial⟩,trivial⟩
 ·intro k o hk;have:k≠g:=fun e=>by rw[e,I]at hk;cases hk
  show ((H.set g _).del g) k=_;rw[F1 this,A3 _ this];exact hk
theorem A7V(f:Fm)(x:FmFit f): ∀{Q:D→Heap→Prop} (H:Heap) (h:Q (.bool true) H),D8 21 [.agg (B9 f),.agg (B9 f)] H Q:=by
 induction x with
 |mk o n l s ks ho hn hl hs hk I y=>
 intro Q H h;have e:B9 (.mk o n l s ks)= [.int .i64 o,.int .i64 n,.sl 2 (Rw P2 l.t),.int .i64 l.k,.bool l.e,.str s,.sl 7 (Rw B9 ks)]:=O7 _;rw[e];refine A8 [(6,.par)] A5 Tryz.func21 rfl ?_;simp only[go_sem,seval,Tryz.results21];intro g z j r;simp only[A6]at r;have e2:((H.set g (.box [.int .i64 o,.int .i64 n,.sl 2 (Rw P2 l.t),.int .i64 l.k,.bool l.e,.str s,.sl 7 (Rw B9 ks)])).set j (.box [.int .i64 o,.int .i64 n,.sl 2 (Rw P2 l.t),.int .i64 l.k,.bool l.e,.str s,.sl 7 (Rw B9 ks)])) g=some (.box [.int .i64 o,.int .i64 n,.sl 2 (Rw P2 l.t),.int .i64 l.k,.bool l.e,.str s,.sl 7 (Rw B9 ks)]):=by rw[A3 _ r.1.symm,A0]
 have e3:((H.set g (.box [.int .i64 o,.int .i64 n,.sl 2 (Rw P2 l.t),.int .i64 l.k,.bool l.e,.str s,.sl 7 (Rw B9 ks)])).set j (.box [.int .i64 o,.int .i64 n,.sl 2 (Rw P2 l.t),.int .i64 l.k,.bool l.e,.str s,.sl 7 (Rw B9 ks)])) j=some (.box [.int .i64 o,.int .i64 n,.sl 2 (Rw P2 l.t),.int .i64 l.k,.bool l.e,.str s,.sl 7 (Rw B9 ks)]):=A0 _ _;have p:H.Le ((H.set g (.box [.int .i64 o,.int .i64 n,.sl 2 (Rw P2 l.t),.int .i64 l.k,.bool l.e,.str s,.sl 7 (Rw B9 ks)])).set j (.box [.int .i64 o,.int .i64 n,.sl 2 (Rw P2 l.t),.int .i64 l.k,.bool l.e,.str s,.sl 7 (Rw B9 ks)])):=(A2 z).trans (A2 (by simp only[A6];exact r));generalize (H.set g (.box [.int .i64 o,.int .i64 n,.sl 2 (Rw P2 l.t),.int .i64 l.k,.bool l.e,.str s,.sl 7 (Rw B9 ks)])).set j (.box [.int .i64 o,.int .i64 n,.sl 2 (Rw P2 l.t),.int .i64 l.k,.bool l.e,.str s,.sl 7 (Rw B9 ks)])=Bs at e2 e3 p⊢;have A:g∈[g,j]:=by simp
 have C:j∈[g,j]:=by simp
 have hc: ∀{Q:D→Heap→Prop} (H:Heap) (h:Q (.bool true) H),D8 60 [.agg [.sl 2 (Rw P2 l.t),.int .i64 l.k,.bool l.e],.agg [.sl 2 (Rw P2 l.t),.int .i64 l.k,.bool l.e]] H Q:=fun H h=>C0a l hl H h;repeat' (first|simp only[go_sem,seval,e2,e3]|with_reducible refine hc _ ?_)
 refine C2 [2,3,44] (fun(i:Nat)=>[(45,.int .i64 i)]) (fun(i:Nat)=>Bs) (fun(i:Nat)=>i≤ks.length) (fun(i:Nat)=>ks.length-i) (0) (D1u _) (by simp only[go_sem,seval]) (D20 _) ?_;rintro J rfl i L;by_cases d:i<ks.length
 ·have m:decide ((i:Int)<ks.length)=true:=D1b (by omega);have q:(i:Int)<ks.length:=by omega
  have u: ∀{Q:D→Heap→Prop} (H:Heap) (h:Q (.bool true) H),D8 21 [.agg (B9 ks[i]),.agg (B9 ks[i])] H Q:=y ks[i] (D1n d);repeat' simp only[go_sem,seval,m,q,A9 _ _ d,C0 _ _ d]
  refine F7 (fun G=>if G=10 then .bool true else .undef) [g,j] ?_;repeat' (first|with_reducible apply D1Z|simp only[go_sem,seval,m,q,A9 _ _ d,C0 _ _ d,e2,e3,A,C]|simp(disch:=omega) only[A4,A9,C3]|with_reducible refine S6 (fun H' Q hro hq=>u H' hq) ?_|omega)
  exact C1 (i+1) (by omega) (by omega) (by(try simp only[go_sem,seval])<;>(try simp(disch:=omega) [A4])) (by simp only[D7,C9,D0]at* <;>grind)
 ·have m:decide ((i:Int)<ks.length)=false:=D1c (by omega);repeat' simp only[go_sem,seval,m]
  exact D21 p h
theorem C1J{Q}(l:List VlV)(j:A72 l)(H:Heap)(h:Q (.bool true) H):D8 35 [.sl 2 (Rw vlC l),.sl 2 (Rw vlC l)] H Q:=by
 refine A8 [(6,.par)] A5 Tryz.func35 rfl ?_;simp only[go_sem,seval,Tryz.results35];have hlen:=j.len;refine C2 [0,1,12] (fun(i:Nat)=>[(13,.int .i64 i)]) (fun(i:Nat)=>H) (fun(i:Nat)=>i≤l.length) (fun(i:Nat)=>l.length-i) (0) (D1u _) (by simp only[go_sem,seval]) (D20 _) ?_;rintro m rfl i o;by_cases d:i<l.length
 ·have e:decide ((i:Int)<l.length)=true:=D1b (by omega);have g:(i:Int)<l.length:=by omega
  repeat' simp only[go_sem,seval,e,g,A9 _ _ d,C0 _ _ d]
  refine F7 (fun p=>.undef) [] ?_;repeat' (first|with_reducible apply D1Z|simp only[go_sem,seval,e,g,A9 _ _ d,C0 _ _ d]|simp(disch:=omega) only[A4,A9,C3]|omega)
  exact C1 (i+1) (by omega) (by omega) (by(try simp only[go_sem,seval])<;>(try simp(disch:=omega) [A4])) (by simp only[D7,C9,D0]at* <;>grind)
 ·have e:decide ((i:Int)<l.length)=false:=D1c (by omega);repeat' simp only[go_sem,seval,e]
  exact D22 h
theorem B84{Q}(vs:List VlV)(k:Fm)(b:Nat)(H:Heap)(hb:H b=some (.box [.sl 2 (Rw vlC vs)]))(j: ∀(Q:D→Heap→Prop) (H:Heap),Q (.bool (Q8 k vs)) H→D8 63 [.agg (B9 k),.sl 2 (Rw vlC vs)] H Q)(h:Q (.bool (!Q8 k vs)) H):D8 109 [.agg (B9 k),.box b 0] H Q:=by
 refine A8 [] A5 Tryz.func109 rfl ?_;simp only[go_sem,seval,Tryz.results109];intro d i;have n2:b≠d:=fun e=>by rw[←e,hb]at i;cases i
 have e1:(H.set d (.box (B9 k))) b=some (.box [.sl 2 (Rw vlC vs)]):=by rw[A3 _ n2];exact hb
 have e2:(H.set d (.box (B9 k))) d=some (.box (B9 k)):=A0 _ _;have g:H.Le (H.set d (.box (B9 k))):=A2 i;generalize H.set d (.box (B9 k))=Bs at e1 e2 g⊢;repeat' (first|simp only[go_sem,seval,e1,e2]|with_reducible refine j _ _ ?_)
 exact D21 g h
theorem B85{Q}(vs:List VlV)(k:Fm)(b:Nat)(H:Heap)(hb:H b=some (.box [.sl 2 (Rw vlC vs)]))(j: ∀(Q:D→Heap→Prop) (H:Heap),Q (.bool (Q8 k vs)) H→D8 63 [.agg (B9 k),.sl 2 (Rw vlC vs)] H Q)(h:Q (.bool (Q8 k vs)) H):D8 110 [.agg (B9 k),.box b 0] H Q:=by
 refine A8 [] A5 Tryz.func110 rfl ?_;simp only[go_sem,seval,Tryz.results110];intro d i;have n2:b≠d:=fun e=>by rw[←e,hb]at i;cases i
 have e1:(H.set d (.box (B9 k))) b=some (.box [.sl 2 (Rw vlC vs)]):=by rw[A3 _ n2];exact hb
 have e2:(H.set d (.box (B9 k))) d=some (.box (B9 k)):=A0 _ _;have g:H.Le (H.set d (.box (B9 k))):=A2 i;generalize H.set d (.box (B9 k))=Bs at e1 e2 g⊢;repeat' (first|simp only[go_sem,seval,e1,e2]|with_reducible refine j _ _ ?_)
 exact D21 g h
theorem B86(l:List Fm)(p:Fm→Bool):(!l.any fun k=> !p k)=l.all p:=by
 induction l with
 |nil=>rfl
 |cons x l d=>rw[D2e,D2c,←d];cases p x<;>simp
theorem C1K(vs:List VlV)(I:A72 vs)(hv:N8 vs=true)(n:Nat): ∀{Q} (f:Fm) (hn:SizeOf.sizeOf f≤n) (r:G8 D5 f=true) (u:FmFit f) (H:Heap) (h:Q (.bool (Q8 f vs)) H),D8 63 [.agg (B9 f),.sl 2 (Rw vlC vs)] H Q:=by
 induction n with
 |zero=>intro Q f hn;cases f;simp at hn
 |succ n J=>
 intro Q f hn r u H h;refine A8 [] A5 Tryz.func63 rfl ?_;simp only[go_sem,seval,Tryz.results63];have q:=u.kl;have L:=I.len;have g: ∀k∈f.ks,∀(Q:D→Heap→Prop) (H:Heap),Q (.bool (Q8 k vs)) H→D8 63 [.agg (B9 k),.sl 2 (Rw vlC vs)] H Q:=fun k hk Q H hq=>J k (by have:=S3 hk;omega) (N9 r hk) (u.kid hk) H hq;intro p M j x;simp only[A6]at x;have y:p≠j:=fun e=>x.1 e.symm;have e2:((H.set p (.box (B9 f))).set j (.box [.sl 2 (Rw vlC vs)])) p=some (.box (B9 f)):=by rw[A3 _ y,A0]
 have e3:((H.set p (.box (B9 f))).set j (.box [.sl 2 (Rw vlC vs)])) j=some (.box [.sl 2 (Rw vlC vs)]):=A0 _ _;have i:H.Le ((H.set p (.box (B9 f))).set j (.box [.sl 2 (Rw vlC vs)])):=(A2 M).trans (A2 (by simp only[A6];exact x));generalize (H.set p (.box (B9 f))).set j (.box [.sl 2 (Rw vlC vs)])=Bs at e2 e3 i⊢;cases V4 r with
 |con m hm=>
  rw[D0I _ rfl]at h;simp only[Fm.n]at h;repeat' simp only[go_sem,seval,e2]
  exact D21 i h
 |lin l hl hp=>
  rw[D0J _ rfl]at h;simp only[Fm.l]at h;obtain⟨T,K,E⟩:=l;have C:=fun(Q:D→Heap→Prop) (H:Heap)=>C0U (Q:=Q) ⟨T,K,E⟩ hl vs hv (by omega) H;generalize (U7 K T vs).getD 0=z at h C;unfold B2k at h;repeat' (first|with_reducible apply D1Z|simp only[go_sem,seval,e2,e3]|(intro A;try simp only[A6]at A)|with_reducible refine C _ _ ?_)
  all_goals (refine D21 i ?_;simp_all)
 |var s hp=>
  rw[D0K _ rfl]at h;simp only[Fm.s]at h;repeat' (first|simp only[go_sem,seval,e2,e3]|with_reducible refine B1J vs hv s (by omega) _ ?_)
  exact D21 i h
 |not k=>
  rw[D0L _ rfl rfl]at h;have O:(Rw B9 [k]).getD 0 []=B9 k:=rfl;have U:=g k (D1k ..);repeat' (first|simp only[go_sem,seval,e2,e3,O]|with_reducible refine U _ _ ?_)
  all_goals first
   |exact D21 i h
   |decide
   |omega
 |and ks=>
  rw[D0M _ rfl]at h;simp only[Fm.ks]at h g q;have V:=A9j (Q:=fun d G=>d= .bool (ks.any fun k=> !Q8 k vs)∧G=Bs) (fun k=> !Q8 k vs) ks (by omega) 109 [] [.box j 0] Bs (fun k hk _ Q hq=>B84 vs ks[k] j Bs e3 (g _ (D1n hk)) hq) ⟨rfl,rfl⟩;have o: ∀(Q:D→Heap→Prop),Q (.bool (ks.any fun k=> !Q8 k vs)) Bs→D8 108 [.sl 7 (Rw B9 ks),.fn (.func 109) [] [.box j 0]] Bs Q:=fun Q hq=>V.mono fun d G ⟨h1,W⟩=>by rw[h1,W];exact hq
  rw[←B86]at h;repeat' (first|simp only[go_sem,seval,e2,e3]|with_reducible refine o _ ?_)
  exact D21 i h
 |or ks=>
  rw[D0N _ rfl]at h;simp only[Fm.ks]at h g q;have o:=fun(Q:D→Heap→Prop)=>A9j (Q:=Q) (fun k=>Q8 k vs) ks (by omega) 110 [] [.box j 0] Bs (fun k hk _ Q hq=>B85 vs ks[k] j Bs e3 (g _ (D1n hk)) hq);repeat' (first|simp only[go_sem,seval,e2,e3]|with_reducible refine o _ ?_)
  exact D21 i h
theorem C1L{Q}(vs:List VlV)(d:A72 vs)(hv:N8 vs=true)(f:Fm)(e:G8 D5 f=true)(g:FmFit f)(H:Heap)(h:Q (.bool (Q8 f vs)) H):D8 63 [.agg (B9 f),.sl 2 (Rw vlC vs)] H Q:=C1K vs d hv _ f (D1t _) e g H h
theorem D0Q{Q}(f:Fm)(fa:FmFit f)(vo:VOk f)(vs:List VlV)(fv:A72 vs)(H:Heap)(h:Q (.tuple [.bool (atF f vs).1,.int .i64 (atF f vs).2]) H):D8 22 [.agg (B9 f),.sl 2 (Rw vlC vs)] H Q:=by
 refine A8 [] A5 Tryz.func22 rfl ?_;simp only[go_sem,seval,Tryz.results22];have c8:=fv.len;intro O g2;have e2:(H.set O (.box (B9 f))) O=some (.box (B9 f)):=A0 _ _;have J:H.Le (H.set O (.box (B9 f))):=A2 g2;generalize H.set O (.box (B9 f))=Bs at e2 J⊢;have W:=fun(Q:D→Heap→Prop) (H:Heap)=>S4 (Q:=Q) f fa vo H;have wc:=fun(Q:D→Heap→Prop) (H:Heap)=>B7A (Q:=Q) vs fv H;unfold atF at h;cases hf:E3 f with
 |false=>
  rw[hf]at h W;simp only[D1p,false_and,if_false]at h;repeat' (first|simp only[go_sem,seval,e2]|with_reducible refine W _ _ ?_)
  exact D21 J h
 |true=>
  cases hv:N8 vs with
  |false=>
   rw[hf]at h W;rw[hv]at h wc;simp only[D1p,and_false,if_false]at h;repeat' (first|simp only[go_sem,seval,e2]|with_reducible refine W _ _ ?_|with_reducible refine wc _ _ ?_)
   exact D21 J h
  |true=>
   rw[hf]at h W;rw[hv]at h wc;simp only[and_self,if_true]at h;have b3: ∀m,(D.fm m).cells= [D.fm m]:=fun _=>rfl;repeat' (first|simp only[go_sem,seval,e2,b3]|intro o|with_reducible refine W _ _ ?_|with_reducible refine wc _ _ ?_|with_reducible refine A4J (by assumption) f fa rfl ?_)
   rename_i y;have T:=o;clear o;have u:H.Le (Bs.set y (.vec 1 [[.fm (D2 tt (K1 (D9 f)))],[.fm (D2 tt (K1 (C7 f)))]])):=J.trans (A2 T);have n2:O≠y:=fun e=>by rw[←e,e2]at T;cases T
   have c2:(Bs.set y (.vec 1 [[.fm (D2 tt (K1 (D9 f)))],[.fm (D2 tt (K1 (C7 f)))]])) O=some (.box (B9 f)):=by rw[A3 _ n2];exact e2
   have a0:(Bs.set y (.vec 1 [[.fm (D2 tt (K1 (D9 f)))],[.fm (D2 tt (K1 (C7 f)))]])) y=some (.vec 1 [[.fm (D2 tt (K1 (D9 f)))],[.fm (D2 tt (K1 (C7 f)))]]):=A0 _ _;generalize Bs.set y (.vec 1 [[.fm (D2 tt (K1 (D9 f)))],[.fm (D2 tt (K1 (C7 f)))]])=Cs at c2 a0 u⊢;refine C2 [1,2,7,32,33] (fun(j:Nat)=>[(34,.int .i64 j)]) (fun(j:Nat)=>Cs) (fun(j:Nat)=>j≤2∧(0<j→∀s∈D9 f,(P9 vs s).isSome=true)∧(1<j→∀s∈C7 f,(P9 vs s).isSome=true)) (fun(j:Nat)=>2-j) (0) (⟨D1u _,fun h=>absurd h (by decide),fun h=>absurd h (by decide)⟩) (by simp only[go_sem,seval]) (D20 _) ?_;rintro Ec rfl j ⟨hj,a4,b4⟩;by_cases b6:j<2
   ·have U:decide ((j:Int)<2)=true:=D1b (by omega);have b7:(j:Int)<2:=by omega
    obtain⟨ks,G,a5,b8,b9⟩: ∃ks:List ByteArray,([[D.fm (D2 tt (K1 (D9 f)))],[.fm (D2 tt (K1 (C7 f)))]]).getD j []= [.fm (D2 tt ks)]∧([[D.fm (D2 tt (K1 (D9 f)))],[.fm (D2 tt (K1 (C7 f)))]])[j]? =some [.fm (D2 tt ks)]∧
      ((∀s∈ks,(P9 vs s).isSome=true)→(0<j+1→∀s∈D9 f,(P9 vs s).isSome=true)∧(1<j+1→∀s∈C7 f,(P9 vs s).isSome=true))∧(∀s∈ks,(P9 vs s).isSome=false→A7T f vs=false):=by
     match j,b6 with
     |0,_=>exact⟨K1 (D9 f),rfl,rfl,fun h=>⟨fun _ s hs=>h s ((G4 _ _).2 hs),fun h=>absurd h (by decide)⟩,fun s hs hn=>by
       rw[←D2v,A5D];intro g;rw[g s (.inl ((G4 _ _).1 hs))]at hn;cases hn⟩
     |1,_=>exact⟨K1 (C7 f),rfl,rfl,fun h=>⟨fun _=>a4 (by decide),fun _ s hs=>h s ((G4 _ _).2 hs)⟩,fun s hs hn=>by
       rw[←D2v,A5D];intro g;rw[g s (.inr ((G4 _ _).1 hs))]at hn;cases hn⟩
    have r:(D2 tt ks).length=ks.length:=by simp[D2]
    repeat' (first|with_reducible apply D1Z|simp only[go_sem,seval,U,b7,a0,G,a5]|intro o|omega)
    rename_i A;have a6:=o;clear o;refine C2 [1,2,7,32,33,34,39] (fun(s:List Nat)=>[]) (fun(s:List Nat)=>Cs.set A (.rng (D2 tt ks) s)) (fun(s:List Nat)=>∀(i:Nat) (d:i<ks.length),i∈s→(P9 vs ks[i]).isSome=true) (fun(s:List Nat)=>A7J ks.length s) ([]) (fun _ _ h=>absurd h D12) (by simp only[go_sem,seval]) (D20 _) ?_;rintro c0 rfl s hs;have c1:(Cs.set A (.rng (D2 tt ks) s)) A=some (.rng (D2 tt ks) s):=A0 _ _;repeat' simp only[go_sem,seval,c1]
    refine A9C (fun i d hn=>?_) (fun I=>?_)
    ·rw[r]at d;have X:((Cs.set A (.rng (D2 tt ks) s)).set A (.rng (D2 tt ks) (s++[i]))) A=some (.rng (D2 tt ks) (s++[i])):=A0 _ _;have Y:(D2 tt ks)[i]? =some (.str ks[i],.bool true):=by simp[D2,d]
     have C:(D2 tt ks)[i]'(by rw[r];exact d)=(.str ks[i],.bool true):=by simp[D2]
     have L:=fun(Q:D→Heap→Prop) (H:Heap)=>B1J (Q:=Q) vs hv ks[i] (by omega) H;cases hg:(P9 vs ks[i]).isSome with
     |true=>
      rw[hg]at L;repeat' (first|simp only[go_sem,seval,X,Y,C,List.getLast?_concat]|with_reducible refine L _ _ ?_)
      refine C1 (s++[i]) (fun q hq hm=>?_) (A2Q d hn) (by simp only[go_sem,seval]) (D20 _);rcases D1z.1 hm with z|z
      ·exact hs q hq z
      ·rw[D10]at z;subst z;exact hg
     |false=>
      rw[hg]at L;rw[b9 _ (D1n d) hg]at h;simp only[D1p,if_false]at h;repeat' (first|simp only[go_sem,seval,X,Y,C,List.getLast?_concat]|with_reducible refine L _ _ ?_)
      refine D21 ?_ h;refine u.trans ?_;exact A2 a6
    ·have c3: ∀s∈ks,(P9 vs s).isSome=true:=fun x hx=>by
      obtain⟨i,d,rfl⟩:=List.getElem_of_mem hx;exact hs i d (I i (by rw[r];exact d))
     repeat' (first|simp only[go_sem,seval]|simp(disch:=omega) only[A4,C3])
     exact C1 (j+1) ⟨by omega,b8 c3⟩ (by omega) (by(try simp only[go_sem,seval])<;>(try simp(disch:=omega) [A4])) (A2 a6)
   ·have U:decide ((j:Int)<2)=false:=D1c (by omega);have c4:A7T f vs=true:=(A5D f vs).2 fun s hs=>hs.elim (a4 (by omega) s) (b4 (by omega) s);rw[c4]at h;simp only[if_true]at h;obtain⟨ks,G⟩: ∃ks,ks=K1 (C7 f):=⟨_,rfl⟩
    have r:(D2 tt ks).length=ks.length:=by simp[D2]
    rw[←G];repeat' (first|simp only[go_sem,seval,U]|intro o)
    rename_i p;have M:=o;clear o;refine C2 [1,2,54] (fun(s:List Nat)=>[]) (fun(s:List Nat)=>Cs.set p (.rng (D2 tt ks) s)) (fun(s:List Nat)=>∀(i:Nat) (d:i<ks.length),i∈s→((P9 vs ks[i]).getD 0=0∨(P9 vs ks[i]).getD 0=1)) (fun(s:List Nat)=>A7J ks.length s) ([]) (fun _ _ h=>absurd h D12) (by simp only[go_sem,seval]) (D20 _) ?_;rintro c0 rfl s hs;have c5:(Cs.set p (.rng (D2 tt ks) s)) p=some (.rng (D2 tt ks) s):=A0 _ _;have c6:O≠p:=fun e=>by rw[←e,c2]at M;cases M
    have a9:(Cs.set p (.rng (D2 tt ks) s)) O=some (.box (B9 f)):=by rw[A3 _ c6];exact c2
    repeat' simp only[go_sem,seval,c5]
    refine A9C (fun i d hn=>?_) (fun I=>?_)
    ·rw[r]at d;have X:((Cs.set p (.rng (D2 tt ks) s)).set p (.rng (D2 tt ks) (s++[i]))) p=some (.rng (D2 tt ks) (s++[i])):=A0 _ _;have Y:(D2 tt ks)[i]? =some (.str ks[i],.bool true):=by simp[D2,d]
     have C:(D2 tt ks)[i]'(by rw[r];exact d)=(.str ks[i],.bool true):=by simp[D2]
     have L:=fun(Q:D→Heap→Prop) (H:Heap)=>B1J (Q:=Q) vs hv ks[i] (by omega) H;obtain⟨v,V⟩: ∃v,v=(P9 vs ks[i]).getD 0:=⟨_,rfl⟩
     rw[←V]at L;have b0:(v=0∨v=1)→∀(j:Nat) (hj:j<ks.length),j∈s++[i]→((P9 vs ks[j]).getD 0=0∨(P9 vs ks[j]).getD 0=1):=fun b1 q hq hm=>by
      rcases D1z.1 hm with z|z
      ·exact hs q hq z
      ·rw[D10]at z;subst z;rw[←V];exact b1
     by_cases v0:v=0
     ·repeat' (first|simp only[go_sem,seval,X,Y,C,List.getLast?_concat,v0]|with_reducible refine L _ _ ?_)
      exact C1 (s++[i]) (b0 (.inl v0)) (A2Q d hn) (by simp only[go_sem,seval]) (by simp only[D7,C9,D0]at* <;>grind)
     ·by_cases v1:v=1
      ·repeat' (first|simp only[go_sem,seval,X,Y,C,List.getLast?_concat,v1]|with_reducible refine L _ _ ?_)
       exact C1 (s++[i]) (b0 (.inr v1)) (A2Q d hn) (by simp only[go_sem,seval]) (by simp only[D7,C9,D0]at* <;>grind)
      ·have hb:Go.Fo.bits f vs=false:=by
        rw[←D2v,B1y];intro g;have:=g ks[i] ((G4 _ _).1 (by rw[←G];exact D1n d));rw[←V]at this;omega
       rw[hb]at h;simp only[D1p,if_false]at h;repeat' (first|simp only[go_sem,seval,X,Y,C,List.getLast?_concat,v0,v1]|with_reducible refine L _ _ ?_)
       refine D21 ?_ h;refine u.trans ?_;exact A2 M
    ·have hb:Go.Fo.bits f vs=true:=(B1y f vs).2 fun x hx=>by
      have c7:x∈ks:=by rw[G];exact(G4 _ _).2 hx
      obtain⟨i,d,rfl⟩:=List.getElem_of_mem c7;exact hs i d (I i (by rw[r];exact d))
     rw[hb]at h;simp only[if_true]at h;repeat' (first|simp only[go_sem,seval,a9]|with_reducible refine C1L vs fv hv f (M5 hf) fa _ ?_)
     exact D21 (u.trans (A2 M)) h
end Go.Proofs.YtibphjonmikciaaGreatDoor
namespace Go.Fo
open Go Go.Av Go.Lexs Go.Lin
abbrev fxT:ByteArray:=⟨#[38,40,120,45,49,62,61,48,44,32,124,40,120,45,51,61,48,44,32,33,63,98,41,41]⟩
abbrev C78:ByteArray:=⟨#[124,40,45,120,62,61,48,44,32,38,40,124,40,120,45,52,62,61,48,44,32,45,120,43,50,62,61,48,41,44,32,63,98,41,41]⟩
abbrev C1M:ByteArray:=⟨#[120,62,61,48]⟩
def fxO:Fm:=.mk 6 0 nilL D3 []
theorem B88:S (C8 fxF)=fxT∧S (C8 fxN)=C78:=by rw[A9u,B8w];exact⟨rfl,rfl⟩
theorem A8i:parseF (B fxT)=(fxF,0)∧parseF (B C1M)=(fxP,0):=by
 have e1:B fxT=C8 fxF:=by rw[A9u];rfl
 have e2:B C1M=C8 fxP:=by rw[B1z];rfl
 rw[e1,e2];exact⟨A3b R8.1 (by rw[A9u];decide),A3b R8.2.1 (by rw[B1z];decide)⟩
theorem B3L:E3 fxP=true∧FmFit fxP∧VOk fxP:=⟨R8.2.1,(Y5 _ A2V.2.1).2,.inl (by have:=B10.2.1;omega)⟩
theorem A5G:E3 fxN=true∧FmFit fxN∧VOk fxN:=⟨R8.2.2.1,(Y5 _ A2V.2.2.1).2,.inl (by have:=B10.2.2.1;omega)⟩
theorem B3M:E3 fxA=true∧FmFit fxA∧VOk fxA:=⟨R8.2.2.2,(Y5 _ A2V.2.2.2.1).2,.inl (by have:=B10.2.2.2;omega)⟩
theorem A7W:A72 fxVals:=⟨by decide,by decide+kernel,fun x hx=>by
 have key: ∀x∈fxVals,x.n.natAbs≤10:=by decide+kernel
 have:=key x hx;unfold S8;omega⟩
theorem C79:B9 fxO= [.int .i64 6,.int .i64 0,.sl 2 [],.int .i64 0,.bool false,.str D3,.sl 7 []]:=rfl
theorem B12{s:ByteArray}(h:s.size≤1000)(d: ∀c∈B s,c.toNat<128):s.size≤20000→∀k,Go.Proofs.YtibphjonmikciaaGreatDoor.A5B ((B s).drop k):=fun _ k=>Go.Proofs.YtibphjonmikciaaGreatDoor.B3I (by rw[D17,M8];omega) fun c hc=>d c (List.mem_of_mem_drop hc)
end Go.Fo
namespace Go.Proofs.YtibphjonmikciaaGreatDoor
open Go Go.Av Go.Lexs Go.Lin Go.Fo
attribute [local irreducible] ACalls Q4
theorem C8A{Q}(H:Heap)(d:Tabs H)(h:Q (.tuple [.str fxT,.int .i64 0]) H):D8 27 [.agg (B9 fxF)] H Q:=
 A6H fxF L1.2.1 L1.2.2.1 H d (by rw[if_pos L1.1,if_pos L1.1,B88.1];exact h)
theorem C48{Q}(H:Heap)(d:Tabs H)(h:Q (.tuple [.str C78,.int .i64 0]) H):D8 27 [.agg (B9 fxN)] H Q:=
 A6H fxN A5G.2.1 A5G.2.2 H d (by rw[if_pos A5G.1,if_pos A5G.1,B88.2];exact h)
theorem C49{Q}(H:Heap)(d:Tabs H)(h:Q (.tuple [.agg (B9 fxF),.int .i64 0]) H):D8 29 [.str fxT] H Q:=
 A7P fxT (B12 (by decide) (by decide)) H d (by rw[A8i.1];exact h)
theorem C1N{Q}(H:Heap)(d:Tabs H)(h:Q (.tuple [.agg (B9 fxP),.int .i64 0]) H):D8 29 [.str C1M] H Q:=
 A7P C1M (B12 (by decide) (by decide)) H d (by rw[A8i.2];exact h)
theorem D0R{Q}(H:Heap)(h:Q (.tuple [.bool true,.int .i64 0]) H):D8 37 [.agg (B9 fxF),.agg (B9 fxP)] H Q:=
 C1F fxF fxP L1.2.1 B3L.2.1 L1.2.2.1 B3L.2.2 L1.1 B3L.1 A9w.1 A9w.2.1 false A5F.2.2.1 (Y5 _ A2V.2.2.2.2.2.2.2.1).1 H h
theorem D0S{Q}(H:Heap)(h:Q (.tuple [.agg (B9 fxN),.int .i64 0]) H):D8 16 [.agg (B9 fxF)] H Q:=
 C7z fxF L1.2.1 L1.2.2.1 H (by rw[C42];exact h)
theorem D0T{Q}(H:Heap)(h:Q (.tuple [.bool true,.int .i64 0]) H):D8 31 [.agg (B9 fxF)] H Q:=
 B8z fxF L1.2.1 L1.2.2.1 L1.1 true A5F.1 H h
theorem C8B{Q}(H:Heap)(h:Q (.tuple [.bool false,.int .i64 0]) H):D8 31 [.agg (B9 fxA)] H Q:=
 B8z fxA B3M.2.1 B3M.2.2 B3M.1 false A5F.2.1 H h
theorem D0U{Q}(H:Heap)(h:Q (.tuple [.agg (B9 fxA),.int .i64 0]) H):D8 24 [.sl 7 (Rw B9 [fxF,fxN])] H Q:=
 C71 [fxF,fxN] (fun f d=>by simp only[D11,D12,or_false]at d;rcases d with rfl|rfl;exact L1.2.1;exact A5G.2.1) (by decide)
  (fun f d=>by simp only[D11,D12,or_false]at d;rcases d with rfl|rfl;exact L1.2.2.1;exact A5G.2.2) (fun _=>by have:=B10;simp only[J5.wtL];omega) H (by rw[C43];exact h)
theorem xOr{Q}(H:Heap)(h:Q (.tuple [.agg (B9 fxO),.int .i64 0]) H):D8 26 [.sl 7 []] H Q:=
 D0H [] (fun f d=>by cases d) (by decide) (fun f d=>by cases d) (fun _=>by simp only[J5.wtL];omega) H (by rw[C75];exact h)
theorem xAt{Q}(H:Heap)(h:Q (.tuple [.bool true,.int .i64 0]) H):D8 22 [.agg (B9 fxF),.sl 2 (Rw vlC fxVals)] H Q:=
 D0Q fxF L1.2.1 L1.2.2.1 fxVals A7W H (by rw[C74];exact h)
theorem C8C{Q}(H:Heap)(h:Q (.tuple [.sl 1 (Rw L7 [nX]),.sl 1 (Rw L7 [nB]),.int .i64 0]) H):D8 14 [.agg (B9 fxF)] H Q:=
 C4e fxF L1.2.1 L1.2.2.1 H (by rw[if_pos L1.1,B4W.1,B4W.2];exact h)
theorem C8D{Q}(H:Heap)(h:Q (.tuple [.bool true,.int .i64 0]) H):D8 38 [.agg (B9 fxF),.agg (B9 fxF)] H Q:=
 C1G fxF L1.2.1 L1.2.2.1 L1.1 A9w.2.2.1 A9w.2.2.2 A5F.2.2.2.1 (Y5 _ A2V.2.2.2.2.2.2.2.2.1).1 H h
theorem C5A{Q}(H:Heap)(h:Q (.bool true) H):D8 18 [.agg (B9 fxF)] H Q:=
 S4 fxF L1.2.1 L1.2.2.1 H (by rw[L1.1];exact h)
set_option maxHeartbeats 4000000 in
theorem A2W{Q}(H:Heap)(J:Tabs H)(h:Q (.bool true) H):D8 13 [] H Q:=by
 refine A8 [(15,.par)] A5 Tryz.func13 rfl ?_;simp only[go_sem,seval,Tryz.results13];have T:=D20 H;repeat' (first|simp only[go_sem,seval]|intro e|with_reducible refine A8h _ ?_|with_reducible refine C8A _ J ?_|with_reducible refine C49 _ J ?_)
 rename_i I;have U:=e;clear e;have d:(H.set I (.box (B9 fxF))) I=some (.box (B9 fxF)):=A0 _ _;have x:=T.trans (A2 (o:=.box (B9 fxF)) U);have V:=J.le x;generalize H.set I (.box (B9 fxF))=H1 at d x V⊢;clear U;repeat' (first|simp only[go_sem,seval,d]|simp(disch:=first|omega|grind) only[B3]|intro e|with_reducible refine B81 _ ?_|with_reducible refine C1N _ V ?_)
 rename_i b7;have L:=e;clear e;have i:(H1.set b7 (.box (B9 fxP))) b7=some (.box (B9 fxP)):=A0 _ _;have d:=(A2 (o:=.box (B9 fxP)) L) _ _ d;have y:=x.trans (A2 (o:=.box (B9 fxP)) L);have a0:=J.le y;generalize H1.set b7 (.box (B9 fxP))=H2 at d i y a0⊢;clear L;repeat' (first|simp only[go_sem,seval,d,i]|intro e|with_reducible refine D0R _ ?_|with_reducible refine D0S _ ?_)
 rename_i M;have u:=e;clear e;have g:(H2.set M (.box (B9 fxN))) M=some (.box (B9 fxN)):=A0 _ _;have d:=(A2 (o:=.box (B9 fxN)) u) _ _ d;have i:=(A2 (o:=.box (B9 fxN)) u) _ _ i;have z:=y.trans (A2 (o:=.box (B9 fxN)) u);have W:=J.le z;generalize H2.set M (.box (B9 fxN))=H3 at d i g z W⊢;clear u;repeat' (first|simp only[go_sem,seval,d,i,g]|intro e|with_reducible refine C48 _ W ?_|with_reducible refine D0T _ ?_)
 rename_i bx;have a4:=e;clear e;refine S5 (es:=Rw B9 [fxF,fxN]) a4 rfl ?_;repeat' (first|simp only[go_sem,seval,d,i,g]|intro e|with_reducible refine D0U _ ?_)
 rename_i O;have p:=e;clear e;have j:(H3.set O (.box (B9 fxA))) O=some (.box (B9 fxA)):=A0 _ _;have d:=(A2 (o:=.box (B9 fxA)) p) _ _ d;have i:=(A2 (o:=.box (B9 fxA)) p) _ _ i;have g:=(A2 (o:=.box (B9 fxA)) p) _ _ g;have A:=z.trans (A2 (o:=.box (B9 fxA)) p);have a5:=J.le A;generalize H3.set O (.box (B9 fxA))=H4 at d i g j A a5⊢;clear p;repeat' (first|simp only[go_sem,seval,d,i,g,j]|with_reducible refine C8B _ ?_|with_reducible refine xAt _ ?_|with_reducible refine C8C _ ?_|with_reducible refine C8D _ ?_)
 refine B17 7 ?_;repeat' (first|simp only[go_sem,seval,d,i,g,j]|intro e|with_reducible refine xOr _ ?_)
 rename_i q;have m:=e;clear e;have r:(H4.set q (.box (B9 fxO))) q=some (.box (B9 fxO)):=A0 _ _;have d:=(A2 (o:=.box (B9 fxO)) m) _ _ d;have i:=(A2 (o:=.box (B9 fxO)) m) _ _ i;have g:=(A2 (o:=.box (B9 fxO)) m) _ _ g;have j:=(A2 (o:=.box (B9 fxO)) m) _ _ j;have C:=A.trans (A2 (o:=.box (B9 fxO)) m);have a6:=J.le C;generalize H4.set q (.box (B9 fxO))=H5 at d i g j r C a6⊢;clear m;have m3:I∈[I,q]:=by simp
 have X:q∈[I,q]:=by simp
 have t1:decide ((fxT:ByteArray)=fxT)=true:=D1b rfl;rw[show B9 fxO=_ from C79]at r;refine F7 (fun Y=>if Y=12 then .agg (B9 fxF)else if Y=13 then .bool true else if Y=20 then .bool true else if Y=107 then .bool true else .undef) [I,q] ?_;repeat' (first|simp only[go_sem,seval,d,i,g,j,r,m3,X]|intro e|with_reducible refine S6 (fun H' Q hro hq=>A8h H' hq) ?_|with_reducible refine S6 (fun H' Q hro hq=>A7V fxF L1.2.1 H' hq) ?_)
 rename_i bv;have G:=e;clear e;have a9:bv∉[I,q]:=by simp only[D11,D12,or_false];rintro(rfl|rfl);rw[d]at G;cases G;rw[r]at G;cases G
 refine C9z (o:=.vec 2 (Rw vlC fxVals)) G rfl a9 (fun H' Q hro hb hq=>A0o hb rfl (C1J fxVals A7W _ hq)) ?_;repeat' (first|with_reducible apply D1Z|simp only[go_sem,seval,d,i,g,j,r,m3,X]|intro e|with_reducible refine S6 (fun H' Q hro hq=>C5A H' hq) ?_|omega)
 exact D21 C h
theorem B89(f:Fm)(L:FmFit f): ∀{Q:D→Heap→Prop} (left:Int) (H:Heap) (h:Q (.int .i64 (V8 f left)) H),D8 43 [.agg (B9 f),.int .i64 left] H Q:=by
 induction L with
 |mk o n l s ks ho hn hl hs hk X M=>
 intro Q left H h;rw[B4L]at h;change Q (.int .i64 (V8.cntK ks (tcF l.t (IntKind.i64.wrap (left-IntKind.i64.wrap (IntKind.i64.wrap (1+s.size / 100)+l.t.length)))))) H at h;have O:=hl.len;rw[A4 (x:=1+(s.size:Int) / 100) (by omega) (by omega),A4 (x:=1+(s.size:Int) / 100+(l.t.length:Int)) (by omega) (by omega)]at h;have e:B9 (.mk o n l s ks)= [.int .i64 o,.int .i64 n,.sl 2 (Rw P2 l.t),.int .i64 l.k,.bool l.e,.str s,.sl 7 (Rw B9 ks)]:=O7 _;rw[e];refine A8 [] A5 Tryz.func43 rfl ?_;simp only[go_sem,seval,Tryz.results43];intro C T;have e2:(H.set C (.box [.int .i64 o,.int .i64 n,.sl 2 (Rw P2 l.t),.int .i64 l.k,.bool l.e,.str s,.sl 7 (Rw B9 ks)])) C=some (.box [.int .i64 o,.int .i64 n,.sl 2 (Rw P2 l.t),.int .i64 l.k,.bool l.e,.str s,.sl 7 (Rw B9 ks)]):=A0 _ _;have y:H.Le (H.set C (.box [.int .i64 o,.int .i64 n,.sl 2 (Rw P2 l.t),.int .i64 l.k,.bool l.e,.str s,.sl 7 (Rw B9 ks)])):=A2 T;generalize H.set C (.box [.int .i64 o,.int .i64 n,.sl 2 (Rw P2 l.t),.int .i64 l.k,.bool l.e,.str s,.sl 7 (Rw B9 ks)])=Bs at e2 y⊢;repeat' (first|with_reducible apply D1Z|simp only[go_sem,seval,e2]|simp(disch:=omega) only[A4,A9,C3]|intro z|omega)
 refine C2 [2,23,24] (fun(p:Nat×Int)=>[(25,.int .i64 p.1),(1,.int .i64 p.2)]) (fun(p:Nat×Int)=>Bs) (fun(p:Nat×Int)=>p.1≤l.t.length∧tcF (l.t.drop p.1) p.2=tcF l.t (IntKind.i64.wrap (left-(1+(s.size:Int) / 100+l.t.length)))) (fun(p:Nat×Int)=>l.t.length-p.1) ((0,IntKind.i64.wrap (left-(1+(s.size:Int) / 100+l.t.length)))) (⟨D1u _,rfl⟩) (by(try simp only[go_sem,seval])<;>(try simp(disch:=omega) [A4])) (D20 _) ?_;rintro U rfl ⟨i,n⟩ ⟨V,hv⟩;simp only at V hv;by_cases r:i<l.t.length
 ·have A:decide ((i:Int)<l.t.length)=true:=D1b (by omega);have G:(i:Int)<l.t.length:=by omega
  have hsz:=hl.str _ (D1n r);repeat' (first|with_reducible apply D1Z|simp only[go_sem,seval,A,G,A9 _ _ r,C0 _ _ r]|simp(disch:=omega) only[A4,A9,C3]|intro z|omega)
  rw[D14 r,tcF]at hv;exact C1 (i+1,IntKind.i64.wrap (n-(l.t[i].v.size:Int) / 100)) ⟨by simp only[];omega,hv⟩ (by simp only[];omega) (by(try simp only[go_sem,seval])<;>(try simp(disch:=omega) [A4])) (by simp only[D7,C9,D0]at* <;>grind)
 ·have A:decide ((i:Int)<l.t.length)=false:=D1c (by omega);rw[D2S (by omega),tcF]at hv;rw[←hv]at h;clear hv;repeat' simp only[go_sem,seval,A,e2]
  refine C2 [37,38] (fun(p:Nat×Int)=>[(39,.int .i64 p.1),(1,.int .i64 p.2)]) (fun(p:Nat×Int)=>Bs) (fun(p:Nat×Int)=>p.1≤ks.length∧V8.cntK (ks.drop p.1) p.2=V8.cntK ks n) (fun(p:Nat×Int)=>ks.length-p.1) ((0,n)) (⟨D1u _,rfl⟩) (by simp only[go_sem,seval]) (D20 _) ?_;rintro U rfl ⟨j,m⟩ ⟨W,hw⟩;simp only at W hw;by_cases d:j<ks.length
  ·have q:decide ((j:Int)<ks.length)=true:=D1b (by omega);have u:(j:Int)<ks.length:=by omega
   have I: ∀{Q:D→Heap→Prop} (left:Int) (H:Heap) (h:Q (.int .i64 (V8 ks[j] left)) H),D8 43 [.agg (B9 ks[j]),.int .i64 left] H Q:=M ks[j] (D1n d);rw[D14 d,V8.cntK]at hw;by_cases g:m<0
   ·rw[if_pos g]at hw;have J:=D1b g;repeat' (first|with_reducible apply D1Z|simp only[go_sem,seval,q,u,g,J,A9 _ _ d,C0 _ _ d]|intro z|omega)
    rw[hw];exact D21 (y.trans (A2 (by assumption))) h
   ·rw[if_neg g]at hw;have J:=D1c g;repeat' (first|with_reducible apply D1Z|simp only[go_sem,seval,q,u,g,J,A9 _ _ d,C0 _ _ d]|simp(disch:=omega) only[A4,A9,C3]|intro z|with_reducible refine I _ _ ?_|omega)
    exact C1 (j+1,V8 ks[j] m) ⟨by simp only[];omega,hw⟩ (by simp only[];omega) (by(try simp only[go_sem,seval])<;>(try simp(disch:=omega) [A4])) (by simp only[D7,C9,D0]at* <;>grind)
  ·have q:decide ((j:Int)<ks.length)=false:=D1c (by omega);rw[D2S (by omega),V8.cntK]at hw;repeat' simp only[go_sem,seval,q]
   rw[hw];exact D21 y h
theorem C5B{Q}(l:List Fm)(hl:l.length≤1466015503658)(o: ∀f∈l,FmFit f)(H:Heap)(h:Q (.bool (decide (0≤B5g l 600))) H):D8 12 [.sl 7 (Rw B9 l)] H Q:=by
 refine A8 [] A5 Tryz.func12 rfl ?_;simp only[go_sem,seval,Tryz.results12];repeat' (first|with_reducible apply D1Z|simp only[go_sem,seval]|simp(disch:=omega) only[A4,A9,C3]|intro g|omega)
 refine C2 [6,7] (fun(p:Nat×Int)=>[(8,.int .i64 p.1),(3,.int .i64 p.2)]) (fun(p:Nat×Int)=>H) (fun(p:Nat×Int)=>p.1≤l.length∧B5g (l.drop p.1) p.2=B5g l 600) (fun(p:Nat×Int)=>l.length-p.1) ((0,600)) (⟨D1u _,rfl⟩) (by simp only[go_sem,seval]) (D20 _) ?_;rintro r rfl ⟨i,n⟩ ⟨q,hv⟩;simp only at q hv;by_cases d:i<l.length
 ·have e:decide ((i:Int)<l.length)=true:=D1b (by omega);have j:(i:Int)<l.length:=by omega
  have m: ∀{Q:D→Heap→Prop} (left:Int) (H:Heap) (h:Q (.int .i64 (V8 l[i] left)) H),D8 43 [.agg (B9 l[i]),.int .i64 left] H Q:=B89 l[i] (o _ (D1n d));rw[D14 d,B5g]at hv;repeat' (first|with_reducible apply D1Z|simp only[go_sem,seval,e,j,A9 _ _ d,C0 _ _ d]|simp(disch:=omega) only[A4,A9,C3]|intro g|with_reducible refine m _ _ ?_|omega)
  exact C1 (i+1,V8 l[i] n) ⟨by simp only[];omega,hv⟩ (by simp only[];omega) (by(try simp only[go_sem,seval])<;>(try simp(disch:=omega) [A4])) (by simp only[D7,C9,D0]at* <;>grind)
 ·have e:decide ((i:Int)<l.length)=false:=D1c (by omega);rw[D2S (by omega),B5g]at hv;rw[←hv]at h;repeat' simp only[go_sem,seval,e]
  first
   |exact D22 h
   |(rw[show decide (n≥0)=decide (0≤n)from rfl];exact D22 h)
theorem C1O{Q}{b n:Nat}{H0:Heap}(d:H0 b=none)(f:Fm)(e:FmFit f)(hn:n=1)(h:Q (.bool (decide (0≤V8 f 600))) H0):D8 12 [.vec b 7 0 n] (H0.set b (.vec 7 [B9 f])) Q:=
 S5 (es:=Rw B9 [f]) d hn (C5B [f] (by simp) (fun x hx=>by rw[D10]at hx;rw[hx];exact e) H0 h)
end Go.Proofs.YtibphjonmikciaaGreatDoor
namespace Go.Fo
open Go Go.Av Go.Lexs Go.Lin
theorem B3N(s:List UInt8):FmFit (parseF s).1:=(B5k s).fit
end Go.Fo
namespace Go.Proofs.YtibphjonmikciaaGreatDoor
open Go Go.Av Go.Lexs Go.Lin Go.Fo
attribute [local irreducible] ACalls Q4
theorem B13{Q}(s:ByteArray)(H:Heap)(d:Tabs H)(h:Q (.tuple [.agg (B9 (parseF (B s)).1),.int .i64 (parseF (B s)).2]) H):D8 29 [.str s] H Q:=
 A7P s (fun hs k=>C4u (by rw[D17,M8];omega)) H d h
set_option maxHeartbeats 4000000 in
theorem B3O{Q}(f:Fm)(G:FmFit f)(s:ByteArray)(H:Heap)(I:Tabs H)(h:Q (.bool true) H):D8 6 [.agg (B9 f),.str s] H Q:=by
 refine A8 [(3,.wk)] A5 Tryz.func6 rfl ?_;simp only[go_sem,seval,Tryz.results6];intro y g2;have e2:(H.set y (.box (B9 f))) y=some (.box (B9 f)):=A0 _ _;have i:H.Le (H.set y (.box (B9 f))):=A2 g2;generalize H.set y (.box (B9 f))=Bs at e2 i⊢;have j:=I.le i;repeat' (intro e;try simp only[A6]at e)
 refine C1O (by assumption) f G rfl ?_;by_cases hc:0≤V8 f 600
 rotate_left
 ·rw[D1c hc];repeat' (first|simp only[go_sem,seval]|with_reducible refine A2W _ j ?_)
  exact D21 i h
 have vo:=(C0m G hc).1;rw[D1b hc];by_cases c1:(4000:Int)<s.size∧(s.size:Int)≤20000
 ·obtain⟨a1,a2⟩:=c1;have J:decide ((4000:Int)<s.size)=true:=D1b a1;have W:decide ((s.size:Int)≤20000)=true:=D1b a2;repeat' (first|simp only[go_sem,seval,a1,a2,J,W]|with_reducible refine A2W _ j ?_)
  exact D21 i h
 obtain⟨t,z⟩: ∃t,t=if E3 f=true then S (C8 f)else S []:=⟨_,rfl⟩
 obtain⟨A,m⟩: ∃A:Int,A=if E3 f=true then 0 else 2:=⟨_,rfl⟩
 have t1: ∀(Q:D→Heap→Prop) (H:Heap),Tabs H→Q (.tuple [.str t,.int .i64 A]) H→D8 27 [.agg (B9 f)] H Q:=fun Q H I hq=>A6H f G vo H I (by rw[←z,←m];exact hq);have t2: ∀(Q:D→Heap→Prop) (H:Heap),Q (.tuple [.str t,.int .i64 A]) H→D8 28 [.agg (B9 f)] H Q:=fun Q H hq=>B1p f G vo H (by rw[←z,←m];exact hq);have X:=fun(Q:D→Heap→Prop) (H:Heap)=>B13 (Q:=Q) s H;have U:=fun(Q:D→Heap→Prop) (H:Heap)=>B5p (Q:=Q) s H;rw[←B8C]at U;have Y:=B3N (B s);generalize parseF (B s)=P at X U Y;obtain⟨g,eg⟩:=P;simp only at X U Y;have u:=fun(Q:D→Heap→Prop) (H:Heap)=>A7V (Q:=Q) g Y H;have a0:=fun(Q:D→Heap→Prop) (H:Heap)=>A7V (Q:=Q) f G H;have fin: ∀K:Heap,Bs.Le K→Fin Q (.bool true) K:=fun K hk=>D21 (i.trans hk) h;apply I6 (C:=True)
 ·intro hJ;by_cases a1:(4000:Int)<s.size
  ·have a2: ¬(s.size:Int)≤20000:=fun x=>c1 ⟨a1,x⟩;have J:decide ((4000:Int)<s.size)=true:=D1b a1;have W:decide ((s.size:Int)≤20000)=false:=D1c a2;repeat' simp only[go_sem,seval,a1,a2,J,W]
   exact F2 [(1,.str s),(2,.box y 0)] Bs (by simp only[go_sem,seval]) (D20 _) (hJ trivial)
  ·have J:decide ((4000:Int)<s.size)=false:=D1c a1;repeat' simp only[go_sem,seval,a1,J]
   exact F2 [(1,.str s),(2,.box y 0)] Bs (by simp only[go_sem,seval]) (D20 _) (hJ trivial)
 intro _;repeat' (first|simp only[go_sem,seval,e2]|simp(disch:=first|omega|grind) only[B3]|(intro e;try simp only[A6]at e)|with_reducible refine t1 _ _ j ?_|with_reducible refine t2 _ _ ?_|with_reducible refine X _ _ j ?_|with_reducible refine U _ _ ?_)
 rename_i L h9 o;have M:=e;clear e;have V:((Bs.set L (.box (B9 g))).set o (.box (B9 g))) L=some (.box (B9 g)):=by rw[A3 _ M.1.symm,A0]
 have r:((Bs.set L (.box (B9 g))).set o (.box (B9 g))) o=some (.box (B9 g)):=A0 _ _;have d:Bs.Le ((Bs.set L (.box (B9 g))).set o (.box (B9 g))):=(A2 h9).trans (A2 (A6.2 M));have d2:=d _ _ e2;have p:=j.le d;generalize (Bs.set L (.box (B9 g))).set o (.box (B9 g))=Cs at d2 V r d p⊢;by_cases hv:E3 f=true∧(C8 f).length≤20000
 ·obtain⟨hv,hl⟩:=hv;rw[if_pos hv]at z m;subst m;have q:(t.size:Int)≤20000:=by rw[z,J3];omega
  have hk:decide ((t.size:Int)≤20000)=true:=D1b q;have p3: ∀(Q:D→Heap→Prop) (H:Heap),Tabs H→Q (.tuple [.agg (B9 f),.int .i64 0]) H→D8 29 [.str t] H Q:=fun Q H I hq=>B13 t H I (by rw[z,Q7,A3b hv hl];exact hq);repeat' (first|simp only[go_sem,seval,d2,V,r,q,hk]|simp(disch:=first|omega|grind) only[B3]|(intro e;try simp only[A6]at e)|with_reducible refine u _ _ ?_|with_reducible refine p3 _ _ p ?_)
  rename_i a4;have O:=e;clear e;repeat' (first|simp only[go_sem,seval]|with_reducible refine a0 _ _ ?_|with_reducible refine A2W _ (p.le (A2 O)) ?_)
  exact D21 (i.trans (d.trans (A2 O))) h
 ·by_cases he:A=0
  ·have T:E3 f=true:=by
    by_cases g:E3 f=true
    ·exact g
    ·rw[if_neg g]at m;omega
   have q: ¬(t.size:Int)≤20000:=by
    rw[z,if_pos T,J3];have: ¬(C8 f).length≤20000:=fun x=>hv ⟨T,x⟩;omega
   have hk:decide ((t.size:Int)≤20000)=false:=D1c q;repeat' (first|simp only[go_sem,seval,V,r,he,q,hk]|with_reducible refine u _ _ ?_|with_reducible refine A2W _ p ?_)
   exact D21 (i.trans d) h
  ·have hk:decide (A=0)=false:=D1c he;repeat' (first|simp only[go_sem,seval,V,r,he,hk]|with_reducible refine u _ _ ?_|with_reducible refine A2W _ p ?_)
   exact D21 (i.trans d) h
end Go.Proofs.YtibphjonmikciaaGreatDoor
namespace Go.Av
open Go.RowKit Go.ChangeShapes Go.WideShapes
def B14(P:Program):Nat→List Field→Option Nat
 |o,[]=>some o
 |o,f::r=>if f.offset=o then B14 P (o+P.cellsOf f.type) r else none
def A5H(P:Program)(l:List TypeId)(t:TypeId):Bool:=match P.underlying t with
 |some .bool|some (.int _)|some .string=>decide (P.cellsOf t=1)
 |some (.slice e)=>decide (P.cellsOf t=1)&&l.contains e&&decide (0<P.cellsOf e)&&decide (0<P.bytesOf e)
 |some (.struct fs)=>decide (B14 P 0 fs.toList=some (P.cellsOf t))&&fs.toList.all (fun f=>l.contains f.type)
 |_=>false
def plainB(P:Program)(l:List TypeId):Bool:=l.all (A5H P l)
inductive A0A(P:Program):TypeId→List D→Prop
 |bool {t:TypeId} (b:Bool) (h:P.underlying t=some .bool):A0A P t [.bool b]
 |int {t:TypeId} {k:IntKind} (n:Int) (h:P.underlying t=some (.int k)) (hw:(Lit.int k n).wf=true):A0A P t [.int k n]
 |str {t:TypeId} (s:ByteArray) (h:P.underlying t=some .string) (hs:s.size≤reachBytes):A0A P t [.str s]
 |sl {t e:TypeId} (es:List (List D)) (h:P.underlying t=some (.slice e)) (hl:es.length*P.bytesOf e≤reachBytes) (he: ∀x∈es,A0A P e x):A0A P t [.sl (P.cellsOf e) es]
 |struct {t:TypeId} {fs:Array Field} (ps:List (List D)) (h:P.underlying t=some (.struct fs)) (hl:ps.length=fs.size) (hp: ∀(i:Nat) (f:Field) (p:List D),fs[i]? =some f→ps[i]? =some p→A0A P f.type p):A0A P t ps.flatten
section
variable {H:Type} {enc:TypeId×Value→H} {P:Program}
def B9A(w:World)(Hp:Heap)(ds:List D)(cs:List Value):Prop:=∀(j:Nat) (d:D),ds[j]? =some d→d.one=true∧R w Hp d (cs.getD j Go.undef)
theorem A8j{w:World}{Hp:Heap}{cs:List Value}: ∀(fs:List Field) (o m:Nat) (ps:List (List D)),B14 P o fs=some m→m≤cs.length→ps.length=fs.length→
  (∀(i:Nat) (f:Field) (p:List D),fs[i]? =some f→ps[i]? =some p→p.length=P.cellsOf f.type∧B9A w Hp p ((cs.drop f.offset).take (P.cellsOf f.type)))→
  o≤m∧o+ps.flatten.length=m∧∀(j:Nat) (d:D),ps.flatten[j]? =some d→d.one=true∧R w Hp d (cs.getD (o+j) Go.undef)
 | [],o,m,ps,g,_,hl,_=>by
  have:ps= []:=D1x (by simpa using hl);subst this;simp only[B14,D2B]at g;subst g;exact⟨D1t _,by simp,fun j d h=>by simp at h⟩
 |f::r,o,m,ps,g,hm,hl,hp=>by
  cases ps with
  |nil=>simp at hl
  |cons p ps=>
   unfold B14 at g;split at g
   ·rename_i ho;obtain⟨q,u⟩:=hp 0 f p rfl rfl;obtain⟨h1,L,y⟩:=A8j r (o+P.cellsOf f.type) m ps g hm (by simpa using hl) (fun i z A C x=>hp (i+1) z A (by simpa using C) (by simpa using x));refine⟨by omega,by rw[List.flatten_cons,D1f,q];omega,fun j d h=>?_⟩;rw[List.flatten_cons,List.getElem?_append]at h;split at h
    ·rename_i G;obtain⟨I,J⟩:=u j d h;refine⟨I,?_⟩;have e:((cs.drop f.offset).take (P.cellsOf f.type)).getD j Go.undef=cs.getD (o+j) Go.undef:=by
      rw[List.getD_eq_getElem?_getD,List.getD_eq_getElem?_getD,List.getElem?_take_of_lt (by omega),List.getElem?_drop,ho]
     rw[←e];exact J
    ·rename_i G;have:=y (j-p.length) d h;have e:o+P.cellsOf f.type+(j-p.length)=o+j:=by omega
     rw[e]at this;exact this
   ·cases g
theorem A2X{e:TypeId}{n:Nat}: ∀{l:List (DataW H)},(DataW.weightsAll P e l).all (· ≤n)=true→∀d∈l,(d.weights P e).all (· ≤n)=true
 | [],_,d,g=>by cases g
 |x::l,h,d,g=>by
  rw[DataW.weightsAll,D2d,D1m]at h;rcases D11.1 g with rfl|g
  ·exact h.1
  ·exact A2X h.2 d g
theorem Y6{n:Nat}: ∀{j:List TypeId} {l:List (DataW H)},(DataW.weightsEach P j l).all (· ≤n)=true→∀(i:Nat) t d,j[i]? =some t→l[i]? =some d→(d.weights P t).all (· ≤n)=true
 | [],_,_,i,t,d,e,_=>by simp at e
 |_::_,[],_,i,t,d,_,g=>by simp at g
 |t0::j,m::l,h,i,t,d,e,g=>by
  rw[DataW.weightsEach,D2d,D1m]at h;cases i with
  |zero=>simp at e g;subst e;subst g;exact h.1
  |succ i=>exact Y6 h.2 i t d (by simpa using e) (by simpa using g)
theorem B15{a:Addr}(hs:a.spot=none)(n:Nat):a.add n=⟨a.block,a.off+n,none⟩:=by
 obtain⟨b,o,s⟩:=a;simp only at hs;subst hs;unfold Addr.add;split
 ·rename_i h;subst h;rfl
 ·rfl
theorem A9z{l:List TypeId}(hB:plainB P l=true){w:World}{base:Nat}{sp:Nat→Bool}{hd:Bool}{Hp:Heap}(hH: ∀b,Hp.held b=false):
  ∀(n:Nat) (t:TypeId) (cs:List Value) (x:DataW H×List MemPlace),t∈l→DataW.trod enc P w base sp hd n t cs=some x→(x.1.weights P t).all (· ≤reachBytes)=true→
   cs.length=P.cellsOf t∧∃ds,A0A P t ds∧ds.length=cs.length∧B9A w Hp ds cs:=by
 intro n
 induction n with
 |zero=>intro t cs x _ h;simp[DataW.trod]at h
 |succ n ih=>
  intro t cs x ht h hw;have o:A5H P l t=true:=D2A.1 hB t ht;unfold A5H at o;have one: ∀{d:D} {v:Value},d.one=true→R w Hp d v→B9A w Hp [d] [v]:=fun h1 h2 j d' C=>by
   cases j with
   |zero=>simp at C;subst C;exact⟨h1,h2⟩
   |succ j=>simp at C
  cases z:P.underlying t with
  |none=>rw[z]at o;cases o
  |some u=>
   cases u with
   |bool=>
    rw[z]at o;obtain⟨b,rfl,rfl⟩:=DataW.trod_bool z h;exact⟨(D1a o).symm,_,.bool b z,rfl,one rfl (.bool b)⟩
   |int k=>
    rw[z]at o;obtain⟨m,rfl,rfl,b6⟩:=DataW.trod_int z h;exact⟨(D1a o).symm,_,.int m z b6,rfl,one rfl (.int k m)⟩
   |string=>
    rw[z]at o;obtain⟨s,rfl,rfl,_⟩:=DataW.trod_string z h;have hsz:s.size≤reachBytes:=by simpa [DataW.weights]using hw
    exact⟨(D1a o).symm,_,.str s z hsz,rfl,one rfl (.str s)⟩
   |slice e=>
    rw[z]at o;simp only[D1m,D1v]at o;obtain⟨⟨⟨a4,U⟩,b7⟩,c9⟩:=o;have U:e∈l:=by simpa using U
    rcases DataW.trod_slice z h with⟨rfl,rfl⟩|⟨a,len,cap,A,rest,m,hm,rfl,rfl,hb,b8,d0,hlen,V,_,_⟩
    ·exact⟨a4.symm,_,.sl [] z (by simp) (by simp),rfl,one rfl (.sl0 _ _ _)⟩
    ·cases hm;have a5:(A.length+rest.length)*P.bytesOf e≤reachBytes∧(DataW.weightsAll P e (A.map (·.1))).all (· ≤reachBytes)=true:=by
      rw[DataW.weights,z]at hw;simp only[D2c,D2d,D1m,D1v,D2I]at hw;exact⟨hw.1,hw.2.1⟩
     have W: ∀i,∃p:List D×List Value,i<len→A0A P e p.1∧p.1.length=P.cellsOf e∧B9A w Hp p.1 p.2∧∀j,j<P.cellsOf e→w.cell? ((a.add (i*P.cellsOf e)).add j)=some (p.2.getD j Go.undef):=by
      intro i;by_cases r:i<len
      ·have M:=V i r;have a6:i<A.length:=by omega
       rw[D1q a6,D1l]at M;obtain⟨ci,b9,c0⟩:=M;obtain⟨_,X,c1⟩:=World.cells?_some b9;obtain⟨k1,ds,k2,k3,k4⟩:=ih e ci A[i] U c0 (A2X a5.2 _ (D2X.2 ⟨_,D1n a6,rfl⟩));refine⟨(ds,ci),fun _=>⟨k2,by rw[k3];exact k1,k4,fun j hj=>?_⟩⟩;rw[c1 j hj,List.getD_eq_getElem?_getD,D1q (by rw[X];exact hj)];rfl
      ·exact⟨([],[]),fun h=>absurd h r⟩
     obtain⟨g,L⟩:=Classical.skolem.1 W;have O: ∀(i:Nat) (x:List D),((List.range len).map fun i=>(g i).1)[i]? =some x→i<len∧x=(g i).1:=fun i x hx=>by
      simp only[D1w,D1i]at hx;obtain⟨y,M,rfl⟩:=hx;have r:=(D1j.1 M).1;simp at r;rw[List.getElem?_range r]at M;cases M;exact⟨r,rfl⟩
     have T:((List.range len).map fun i=>(g i).1).length=len:=by simp
     refine⟨a4.symm,_,.sl ((List.range len).map fun i=>(g i).1) z ?_ ?_,rfl,one rfl ?_⟩
     ·rw[T];refine D2f (D2F _ ?_) a5.1;omega
     ·intro x hx;obtain⟨i,r⟩:=List.mem_iff_getElem?.1 hx;obtain⟨c2,rfl⟩:=O i x r;exact(L i c2).1
     ·show R w Hp (.sl (P.cellsOf e) ((List.range len).map fun i=>(g i).1)) (.slice (some a) len cap);by_cases hz:len=0
      ·subst hz;exact .sl0 _ _ _
      ·have q:=(L 0 (by omega)).2.2.2 0 b7;rw[Nat.zero_mul]at q;have G:a.spot=none:=by
        have e0:(a.add 0).add 0=a:=rfl;rw[e0]at q;unfold World.cell? at q;split at q
        ·split at q
         ·cases q
         ·rename_i a9;cases c3:a.spot with
          |none=>rfl
          |some _=>rw[c3]at a9;exact absurd rfl a9
        ·cases q
       have b0:a.block<w.heap.size:=by
        have e0:(a.add 0).add 0=a:=rfl;rw[e0]at q;unfold World.cell? at q;by_cases c4:a.block<w.heap.size
        ·exact c4
        ·rw[Array.getElem?_eq_none (by omega)]at q;cases q
       have Y: ∀i j,i<len→j<P.cellsOf e→w.cell? ⟨a.block,a.off+i*P.cellsOf e+j,none⟩=some ((g i).2.getD j Go.undef):=fun i j r hj=>by
        have:=(L i r).2.2.2 j hj;rw[B15 G,B15 rfl]at this;exact this
       have hR:=R.sl (w:=w) (H:=Hp) (P.cellsOf e) ((List.range len).map fun i=>(g i).1) a.block a.off cap (fun i j=>(g i).2.getD j Go.undef) b0 (hH _)
        (fun i x hx=>by obtain⟨r,rfl⟩:=O i x hx;exact(L i r).2.1) (by rw[T];exact b8) (fun i j r hj=>Y i j (by rw[T]at r;exact r) hj)
        (fun i x j d hx C=>by obtain⟨r,rfl⟩:=O i x hx;exact((L i r).2.2.1 j d C).1) (fun i x j d hx C=>by obtain⟨r,rfl⟩:=O i x hx;exact((L i r).2.2.1 j d C).2)
       rw[T]at hR;obtain⟨ab,ao,d2⟩:=a;simp only at G;subst G;exact hR
   |struct fs=>
    rw[z]at o;simp only[D1m,D1v,D2A]at o;obtain⟨a0,b1⟩:=o;obtain⟨xs,m,hm,rfl,X,d3,V⟩:=DataW.trod_struct z h;cases hm;have c5:(DataW.weightsEach P (fs.toList.map (·.type)) (xs.map (·.1))).all (· ≤reachBytes)=true:=by
     rw[DataW.weights,z]at hw;exact hw
    have W: ∀i:Nat,∃p:List D,∀f:Field,fs[i]? =some f→A0A P f.type p∧p.length=P.cellsOf f.type∧B9A w Hp p ((cs.drop f.offset).take (P.cellsOf f.type)):=by
     intro i;cases I:fs[i]? with
     |none=>exact⟨[],fun f h=>by cases h⟩
     |some f=>
      have r:=(D1y.1 I).1;have b2:i<xs.length:=by omega
      have M:=V i f I;rw[D1q b2]at M;have c6:f.type∈l:=by
       have:=b1 f (by rw[D2E];exact Array.mem_of_getElem? I);simpa using this
      have c7:=Y6 c5 i f.type xs[i].1 (by simp[I]) (by simp[D1q b2]);obtain⟨k1,ds,k2,k3,k4⟩:=ih f.type _ xs[i] c6 M c7;refine⟨ds,fun f' J=>?_⟩;cases J;exact⟨k2,by rw[k3];exact k1,k4⟩
    obtain⟨g,L⟩:=Classical.skolem.1 W;have c8:((List.range fs.size).map g).length=fs.size:=by simp
    have b3: ∀(i:Nat) (f:Field) (p:List D),fs[i]? =some f→((List.range fs.size).map g)[i]? =some p→p=g i:=fun i f p I hp=>by
     have r:=(D1y.1 I).1;rw[D1w,List.getElem?_range r]at hp;cases hp;rfl
    obtain⟨_,hlen,b4⟩:=A8j (P:=P) (w:=w) (Hp:=Hp) (cs:=cs) fs.toList 0 (P.cellsOf t) ((List.range fs.size).map g) a0 (by omega) (by simp) (fun i f p I hp=>by
     have J:fs[i]? =some f:=by simpa using I
     have:=b3 i f p J hp;subst this;exact⟨(L i f J).2.1,(L i f J).2.2⟩)
    refine⟨X,_,.struct ((List.range fs.size).map g) z c8 (fun i f p I hp=>by have:=b3 i f p I hp;subst this;exact(L i f I).1),by omega,fun j d hd=>?_⟩;have:=b4 j d hd;rwa [Nat.zero_add]at this
   |_=>rw[z]at o;cases o
def A3C(P:Program)(t:TypeId)(x:D):Prop:=match P.underlying t with
 |some (.struct _)=>∃ds,x= .agg ds∧A0A P t ds
 |_=>A0A P t [x]
theorem B16{l:List TypeId}(C:plainB P l=true){w:World}{base J:Nat}{L:Nat→Bool}{q:Bool}{Hp:Heap}(M: ∀b,Hp.held b=false){t:TypeId}{v:Value}{d:DataW H}{ps:List MemPlace}(G:t∈l)
  (g:Value.okWide P w .any J t v) (h:DataW.Trod enc P w base L q t v d ps) (hw:(d.weights P t).all (· ≤reachBytes)=true): ∃x,A3C P t x∧R w Hp x v:=by
 obtain⟨n,hn⟩:=h;obtain⟨h1,ds,I,y,r⟩:=A9z C M n t v.cells.toList (d,ps) G hn hw;have o:A5H P l t=true:=D2A.1 C t G;have j:(∀fs,P.underlying t≠some (.struct fs))→v.cells.toList= [v]→∃x,A3C P t x∧R w Hp x v:=by
  intro z hv;rw[hv]at y r
  match ds,y with
  | [x],_=>
   refine⟨x,?_,(r 0 x rfl).2⟩;unfold A3C;split
   ·rename_i fs A;exact absurd A (z fs)
   ·exact I
 cases p:P.underlying t with
 |none=>unfold A5H at o;rw[p]at o;cases o
 |some u=>
  cases u with
  |bool=>obtain⟨b,rfl⟩:=okWide_bool p g;exact j (by simp[p]) rfl
  |int k=>obtain⟨m,rfl⟩:=okWide_int p g;exact j (by simp[p]) rfl
  |string=>obtain⟨s,rfl⟩:=okWide_string p g;exact j (by simp[p]) rfl
  |slice e=>obtain⟨a,len,cap,rfl⟩:=okWide_slice p g;exact j (by simp[p]) rfl
  |struct fs=>
   simp only[Value.okWide,p]at g;obtain⟨cs,rfl,hsz,_⟩:=g;refine⟨.agg ds,?_,.agg _ _ (by rw[y];rfl) (fun i d q=>(r i d q).1) (fun i d q=>?_)⟩
   ·unfold A3C;rw[p];exact⟨ds,rfl,I⟩
   ·have:=(r i d q).2;have e:(Value.agg cs).cells.toList.getD i Go.undef=cs.getD i Go.undef:=by
     show cs.toList.getD i Go.undef=_;simp
    rwa [e]at this
  |_=>unfold A5H at o;rw[p]at o;cases o
theorem A7X{t:TypeId}{ds:List D}(d:P.underlying t=some .string)(h:A0A P t ds): ∃s,ds= [.str s]∧s.size≤reachBytes:=by
 cases h with
 |str s h hs=>exact⟨s,rfl,hs⟩
 |bool b h=>rw[d]at h;cases h
 |int n h=>rw[d]at h;cases h
 |sl es h=>rw[d]at h;cases h
 |struct ps h=>rw[d]at h;cases h
theorem B5v{t:TypeId}{ds:List D}(d:P.underlying t=some .bool)(h:A0A P t ds): ∃b,ds= [.bool b]:=by
 cases h with
 |bool b h=>exact⟨b,rfl⟩
 |str s h hs=>rw[d]at h;cases h
 |int n h=>rw[d]at h;cases h
 |sl es h=>rw[d]at h;cases h
 |struct ps h=>rw[d]at h;cases h
theorem A4P{t:TypeId}{k:IntKind}{ds:List D}(d:P.underlying t=some (.int k))(h:A0A P t ds): ∃n,ds= [.int k n]∧(Lit.int k n).wf=true:=by
 cases h with
 |int n h hw=>rw[d]at h;cases h;exact⟨n,rfl,hw⟩
 |bool b h=>rw[d]at h;cases h
 |str s h hs=>rw[d]at h;cases h
 |sl es h=>rw[d]at h;cases h
 |struct ps h=>rw[d]at h;cases h
theorem C1P{t e:TypeId}{ds:List D}(d:P.underlying t=some (.slice e))(h:A0A P t ds): ∃es,ds= [.sl (P.cellsOf e) es]∧es.length*P.bytesOf e≤reachBytes∧∀x∈es,A0A P e x:=by
 cases h with
 |sl es h hl he=>rw[d]at h;cases h;exact⟨es,rfl,hl,he⟩
 |bool b h=>rw[d]at h;cases h
 |str s h hs=>rw[d]at h;cases h
 |int n h=>rw[d]at h;cases h
 |struct ps h=>rw[d]at h;cases h
theorem A5j{t:TypeId}{fs:Array Field}{ds:List D}(d:P.underlying t=some (.struct fs))(h:A0A P t ds): ∃ps:List (List D),ds=ps.flatten∧ps.length=fs.size∧∀(i:Nat) (f:Field) (p:List D),fs[i]? =some f→ps[i]? =some p→A0A P f.type p:=by
 cases h with
 |struct ps h hl hp=>rw[d]at h;cases h;exact⟨ps,rfl,hl,hp⟩
 |bool b h=>rw[d]at h;cases h
 |str s h hs=>rw[d]at h;cases h
 |int n h=>rw[d]at h;cases h
 |sl es h=>rw[d]at h;cases h
theorem B3P{t:TypeId}{x:D}(hn: ∀fs,P.underlying t≠some (.struct fs))(h:A3C P t x):A0A P t [x]:=by
 unfold A3C at h;split at h
 ·rename_i fs d;exact absurd d (hn fs)
 ·exact h
theorem A90{t:TypeId}{fs:Array Field}{x:D}(d:P.underlying t=some (.struct fs))(h:A3C P t x): ∃ds,x= .agg ds∧A0A P t ds:=by
 unfold A3C at h;rw[d]at h;exact h
theorem B5w{t:TypeId}{x:D}(d:P.underlying t=some .string)(h:A3C P t x): ∃s,x= .str s∧s.size≤reachBytes:=by
 obtain⟨s,h1,e⟩:=A7X d (B3P (by simp[d]) h);simp at h1;exact⟨s,h1,e⟩
theorem A91{n:Int}(h:(Lit.int .i64 n).wf=true): -9223372036854775808≤n∧n≤9223372036854775807:=by
 unfold Lit.wf at h;rw[D1m,D1v,D1v]at h;exact h
theorem A4Q(hl:laidOutB P=true){W j:World}(hb:Below W.heap.size W j): ∀{g:List TypeId} {vs:List Value} {ds:List (DataW H)} {ps:List MemPlace},g.all (fun t=>P.readableRec t&&decide (t<P.types.size))=true→
  DataW.TrodAll enc P W 0 (fun _=>true) true g vs ds ps→(∀x∈ps,x.block<W.heap.size)→DataW.TrodAll enc P j 0 (fun b=>decide (b<W.heap.size)) true g vs ds ps
 | [],[],[],_,_,h,_=>h
 | [],[],_::_,_,_,h,_=>h.elim
 | [],_::_,_,_,_,h,_=>h.elim
 |_::_,[],_,_,_,h,_=>h.elim
 |_::_,_::_,[],_,_,h,_=>h.elim
 |t::g,v::vs,d::ds,ps,i,h,e=>by
  obtain⟨p,q,h1,m,rfl⟩:=h;simp only[D2c,D1m,D1v]at i;exact⟨p,q,Below.trod hl i.1.1 i.1.2 h1 hb (fun x hx=>e x (List.mem_append_left _ hx)),A4Q hl hb i.2 m (fun x hx=>e x (List.mem_append_right _ hx)),rfl⟩
theorem B5x{f:Nat}{fn:Func}{s:ChangeSpec}{W:World}{args:Array Value}{ds M:List (DataW H)}{g:List MemPlace}{tb:TypeId}(m:laidOutB P=true)(o:fn.params.toList.all (fun t=>P.readableRec t&&decide (t<P.types.size))=true)
  (hv:s.vars= []) (u:fn.resultTypes= #[tb]) (hb:P.underlying tb=some .bool) (hs:s.fn H ds= {results:=[.lit (.bool true)],args:=ds})
  (z:DataW.Whole enc P fn.params.toList s.vars false W args.toList ds M g) (Hp:Heap) (O: ∀b,Hp.held b=false) (T:Sat Hp W) (xs:List D) (hx:xs.length=args.size) (U: ∀(i:Nat) d,xs[i]? =some d→R W Hp d (args.getD i Go.undef))
  (V: ∀Q:D→Heap→Prop,Q (.bool true) Hp→ACalls P f xs Hp Q):Calls P f args W fun e A=>∃v,e= .returned v∧s.post enc P fn false true false false W args v A:=by
 have C:=z.lt;have G:=z;obtain⟨p,q,I,L,rfl,X,Y⟩:=z;rw[hv]at L;obtain⟨rfl,rfl⟩:=trodVars_none L;refine((V (fun d _=>d= .bool true) rfl).2 W args hx U T).mono fun e A ⟨v,he,d,H',h1,h2,y,h4,h5⟩=>⟨v,he,?_⟩
 subst h5;have J:=h1.bool_inv;subst J;have j:Below W.heap.size W A:=⟨y.os,y.tape,y.output,y.size,fun k hk=>y.block k hk (O k)⟩
 have r:s.fn H (ds++[])= {results:=[.lit (.bool true)],args:=ds}:=by rw[D2O];exact hs
 refine⟨ds,[],p++[],[],p,[],G,?_,?_,?_,j.frame _,fun h=>by cases h⟩
 ·rw[r,u];exact trodAll_mk1 (shut_bool hb true)
 ·rw[r];exact A4Q m j o I (fun x hx=>C x (by simpa using hx))
 ·rw[r,hv];exact rfl
theorem A92{P:Program}{w:World}: ∀{l:List (String×DataW Unit)} {ps:List MemPlace},DataW.LaidVars P w l ps→∀n d,(n,d)∈l→
  ∃g t cs fuel p,P.globalNamed n=some g∧(P.globals[g]?).map (·.type)=some t∧w.var? P n=some cs∧DataW.trod (fun _=>()) P w 0 (fun _=>true) false fuel t cs.toList=some (d,p)
 | [],_,_,n,d,h=>by cases h
 |(o,u)::r,ps,h,n,d,hm=>by
  obtain⟨g,t,cs,fuel,p,q,h1,i,j,m,h5,_⟩:=h;rcases D11.1 hm with e|hm
  ·cases e;exact⟨g,t,cs,fuel,p,h1,i,j,m⟩
  ·exact A92 h5 n d hm
theorem C1Q{P:Program}{W:World}{laid:List (String×DataW Unit)}(h:laidMet P laid W){name:String}{k:IntKind}{A:List Int}(hm:(name,Lib.tabData k A)∈laid){g:Nat}{t e:TypeId}{n:Nat}
  (C:P.globalNamed name=some g) (q:(P.globals[g]?).map (·.type)=some t) (G:P.underlying t=some (.array n e)) (he:P.underlying e=some (.int k)) (r:P.cellsOf e=1) (u:P.cellsOf t=n) (Hp:Heap):ObjOk W Hp g (.ro (B0q k A)):=by
 obtain⟨ps,hl,_⟩:=h;obtain⟨L,M,cs,fuel,p,x,y,i,o⟩:=A92 hl _ _ hm;obtain rfl:=Option.some.inj (C.symm.trans x);obtain rfl:=Option.some.inj (q.symm.trans y);have m:=Lib.cells_of_tab G he r u o;unfold World.var? at i;rw[C]at i;simp only[D13]at i;split at i
 ·rename_i c T I hw;cases i;refine⟨cs,T,I,hw,by rw[←D2Q,m];simp[B0q],fun j d o=>?_⟩;simp only[B0q,D1w,D1i]at o;obtain⟨z,J,rfl⟩:=o;have e:cs.getD j Go.undef= .int k z:=by
   rw[show cs.getD j Go.undef=cs.toList.getD j Go.undef by simp,m];simp[J]
  rw[e];exact⟨rfl,.int _ _⟩
 ·cases i
end
end Go.Av
section
set_option maxRecDepth 100000
namespace Go.Proofs.YtibphjonmikciaaGreatDoor
open Go Go.Av Go.Lexs Go.Lin
theorem own:ownKnob Tryz.prog.godebug=none:=by kernel_rfl
theorem C1R:laidOutB Tryz.prog=true:=by kernel_rfl
def A93(u v:Nat):Heap:=fun g=>if g=1 then some (.ro (B0q .u64 Lib.pow10Tab))
 else if g=2 then some (.ro [.iface u .undef])
 else if g=3 then some (.ro [.iface v .undef])else none
theorem A5I(u v:Nat)(b:Nat):(A93 u v).held b=false:=by
 cases h:A93 u v b with
 |none=>exact I0 h
 |some o=>
  have: ∃cs,o= .ro cs:=by
   unfold A93 at h;repeat' (split at h;· cases h;exact⟨_,rfl⟩)
   cases h
  obtain⟨cs,rfl⟩:=this;rw[J6 h];rfl
theorem B5y(u v:Nat):Tabs (A93 u v):=by
 refine⟨?_,⟨u,?_⟩,⟨v,?_⟩⟩<;>(unfold A93;simp only[Nat.reduceEqDiff,if_true,if_false])
theorem B4Y{P:Program}{W:World}{laid:List (String×DataW Unit)}(h:laidMet P laid W){name C:String}{x:DataW Unit}(hm:(name,DataW.iface C x)∈laid){g:Nat}{t:TypeId}{ms:Array String}
  (z:P.globalNamed name=some g) (q:(P.globals[g]?).map (·.type)=some t) (A:(match P.underlying t with|some (.interface _)=>true|_=>false)=true) (Hp:Heap): ∃u,ObjOk W Hp g (.ro [.iface u .undef]):=by
 obtain⟨ps,hl,_⟩:=h;obtain⟨J,L,cs,fuel,p,r,y,i,m⟩:=A92 hl _ _ hm;obtain rfl:=Option.some.inj (z.symm.trans r);obtain rfl:=Option.some.inj (q.symm.trans y);have hc: ∃u v,cs.toList= [.iface u v]:=by
  cases fuel with
  |zero=>simp[DataW.trod]at m
  |succ fuel=>
   unfold DataW.trod at m;split at A
   ·rename_i ms G;rw[G]at m;split at m<;>first|(rename_i h1 M;cases h1;done)|skip
    all_goals first|exact⟨_,_,by assumption⟩|(simp at m;done)
   ·cases A
 obtain⟨u,v,o⟩:=hc;unfold World.var? at i;rw[z]at i;simp only[D13]at i;split at i
 ·rename_i c T I hw;cases i;refine⟨u,cs,T,I,hw,by rw[←D2Q,o];rfl,fun j d m=>?_⟩
  match j,m with
  |0,m=>
   cases m;have e:cs.getD 0 Go.undef= .iface u v:=by
    rw[show cs.getD 0 Go.undef=cs.toList.getD 0 Go.undef by simp,o];rfl
   rw[e];exact⟨rfl,.iface _ _ _ (.undef _)⟩
  |j+1,m=>cases m
 ·cases i
theorem B9B:(Rows.laid_internal_strconv_uint64pow10:DataW Unit)=Lib.tabData .u64 Lib.pow10Tab:=by kernel_rfl
theorem B9C{W:World}{laid:List (String×DataW Unit)}(h:laidMet Tryz.prog laid W)(h1:("internal/strconv.uint64pow10",(Rows.laid_internal_strconv_uint64pow10:DataW Unit))∈laid)(p:("strconv.ErrSyntax",(Rows.laid_strconv_ErrSyntax:DataW Unit))∈laid)(q:("strconv.ErrRange",(Rows.laid_strconv_ErrRange:DataW Unit))∈laid):
  ∃u v,Sat (A93 u v) W:=by
 rw[B9B]at h1;obtain⟨u,r⟩:=B4Y (ms:= #[]) h p (g:=2) (by kernel_rfl) (t:=140) (by kernel_rfl) (by kernel_rfl) (fun _=>none);obtain⟨v,hv⟩:=B4Y (ms:= #[]) h q (g:=3) (by kernel_rfl) (t:=140) (by kernel_rfl) (by kernel_rfl) (fun _=>none);refine⟨u,v,?_⟩;intro b o hb;unfold A93 at hb;have mono: ∀{b x:Nat},ObjOk W (fun _=>none) b (.ro [.iface x .undef])→ObjOk W (A93 u v) b (.ro [.iface x .undef]):=fun {b x} ⟨c,T,z,A,C,m⟩=>⟨c,T,z,A,C,fun j d i=>⟨(m j d i).1,by
  have:=(m j d i).2
  match j,i with
  |0,i=>
   cases i;generalize c.getD 0 Go.undef=y at this⊢;cases this with
   |iface _ _ v hr=>exact .iface _ _ _ (.undef _)
  |j+1,i=>cases i⟩⟩
 split at hb
 ·rename_i e;cases hb;subst e;exact C1Q h h1 (by kernel_rfl) (t:=(Tryz.prog.globals[1]?.map (·.type)).getD 0) (by kernel_rfl) (n:=20) (e:=196) (by kernel_rfl) (by kernel_rfl) (by kernel_rfl) (by kernel_rfl) _
 split at hb
 ·rename_i e;cases hb;subst e;exact mono r
 split at hb
 ·rename_i e;cases hb;subst e;exact mono hv
 ·cases hb
theorem B3Q{α :Type}: ∀(l:List α),l.length=3→∃a b c,l= [a,b,c]
 | [a,b,c],_=>⟨a,b,c,rfl⟩
 | [],h=>by cases h
 | [_],h=>by cases h
 | [_,_],h=>by cases h
 |_::_::_::_::_,h=>by simp at h
theorem B9D{α :Type}: ∀(l:List α),l.length=2→∃a b,l= [a,b]
 | [a,b],_=>⟨a,b,rfl⟩
 | [],h=>by cases h
 | [_],h=>by cases h
 |_::_::_::_,h=>by simp at h
theorem B9E{α :Type}{f: α →List D}{p: α →Prop}: ∀(es:List (List D)),(∀x∈es,∃t,x=f t∧p t)→∃l:List α,es=Rw f l∧∀t∈l,p t
 | [],_=>⟨[],rfl,by simp⟩
 |x::es,h=>by
  obtain⟨t,rfl,e⟩:=h x (by simp);obtain⟨l,rfl,hl⟩:=B9E es (fun y g=>h y (by simp[g]));refine⟨t::l,rfl,fun u d=>?_⟩;rcases D11.1 d with rfl|d
  ·exact e
  ·exact hl u d
theorem C1S{el:List D}(h:A0A Tryz.prog 114 el): ∃t:LTm,el=P2 t∧(t.v.size≤140737488351232∧S8 t.c):=by
 have d:reachBytes=140737488351232:=rfl;obtain⟨ps,rfl,hl,hp⟩:=A5j Tryz.underlying114 h;obtain⟨e,g,rfl⟩:=B9D ps hl;obtain⟨s,rfl,hs⟩:=A7X (by kernel_rfl) (hp 0 _ _ rfl rfl);obtain⟨n,rfl,hn⟩:=A4P (k:=.i64) (by kernel_rfl) (hp 1 _ _ rfl rfl);exact⟨⟨s,n⟩,rfl,by simp only[];omega,A91 hn⟩
theorem B9F{el:List D}(h:A0A Tryz.prog 25 el): ∃a:LinV,el=E4 a∧S7 a:=by
 have j:reachBytes=140737488351232:=rfl;obtain⟨ps,rfl,hl,hp⟩:=A5j Tryz.underlying25 h;obtain⟨r,u,x,rfl⟩:=B3Q ps hl;obtain⟨es,rfl,he,g⟩:=C1P (e:=114) (by kernel_rfl) (hp 0 _ _ rfl rfl);obtain⟨k,rfl,hk⟩:=A4P (k:=.i64) (by kernel_rfl) (hp 1 _ _ rfl rfl);obtain⟨b,rfl⟩:=B5v (by kernel_rfl) (hp 2 _ _ rfl rfl);have m:Tryz.prog.cellsOf 114=2:=by kernel_rfl
 have o:Tryz.prog.bytesOf 114=24:=by kernel_rfl
 rw[o]at he;obtain⟨l,rfl,d⟩:=B9E (f:=P2) (p:=fun t=>t.v.size≤140737488351232∧S8 t.c) es (fun y q=>C1S (g y q));rw[D6]at he;rw[m];exact⟨⟨l,k,b⟩,rfl,by simp only[];omega,fun t i=>(d t i).1,fun t i=>(d t i).2,A91 hk⟩
open Go Go.Av Go.Lexs Go.Lin Go.Fo
theorem B5z{α :Type}: ∀(l:List α),l.length=5→∃a b c d e,l= [a,b,c,d,e]
 | [a,b,c,d,e],_=>⟨a,b,c,d,e,rfl⟩
 | [],h=>by cases h
 | [_],h=>by cases h
 | [_,_],h=>by cases h
 | [_,_,_],h=>by cases h
 | [_,_,_,_],h=>by cases h
 |_::_::_::_::_::_::_,h=>by simp at h
def FmD(ds:List D):Prop:=∃f,ds=B9 f∧FmFit f
def D0V(ds:List D):Prop:=∃l,ds= [.sl 7 (Rw B9 l)]∧l.length≤1466015503658∧∀k∈l,FmFit k
theorem B3R{t:TypeId}{ds:List D}(h:A0A Tryz.prog t ds):(t=28→FmD ds)∧(t=26→D0V ds):=by
 have m:reachBytes=140737488351232:=rfl;have e:Tryz.prog.underlying 28=_:=Tryz.underlying28;have g:Tryz.prog.underlying 26=some (.slice 28):=by kernel_rfl
 have q:Tryz.prog.cellsOf 28=7:=by kernel_rfl
 have r:Tryz.prog.bytesOf 28=96:=by kernel_rfl
 induction h with
 |bool b h=>exact⟨(by rintro rfl;rw[e]at h;cases h),(by rintro rfl;rw[g]at h;cases h)⟩
 |int n h hw=>exact⟨(by rintro rfl;rw[e]at h;cases h),(by rintro rfl;rw[g]at h;cases h)⟩
 |str s h hs=>exact⟨(by rintro rfl;rw[e]at h;cases h),(by rintro rfl;rw[g]at h;cases h)⟩
 |sl es h hl he i=>
  refine⟨(by rintro rfl;rw[e]at h;cases h),?_⟩;rintro rfl;rw[g]at h;cases h;rw[r]at hl;obtain⟨l,rfl,d⟩:=B9E (f:=B9) (p:=FmFit) es (fun y u=>(i y u).1 rfl);rw[D6]at hl;rw[q];exact⟨l,rfl,by omega,d⟩
 |struct ps h hl hp i=>
  refine⟨?_,(by rintro rfl;rw[g]at h;cases h)⟩;rintro rfl;rw[e]at h;cases h;obtain⟨z,A,C,G,I,rfl⟩:=B5z ps hl;obtain⟨o,rfl,ho⟩:=A4P (k:=.i64) (by kernel_rfl) (hp 0 _ _ rfl rfl);obtain⟨n,rfl,hn⟩:=A4P (k:=.i64) (by kernel_rfl) (hp 1 _ _ rfl rfl);obtain⟨a,rfl,x⟩:=B9F (hp 2 _ _ rfl rfl);obtain⟨s,rfl,hs⟩:=A7X (by kernel_rfl) (hp 3 _ _ rfl rfl);obtain⟨l,rfl,j,d⟩:=(i 4 _ _ rfl rfl).2 rfl;refine⟨.mk o n a s l,?_,.mk _ _ _ _ _ (A91 ho) (A91 hn) x (by omega) j d⟩;rw[O7];rfl
theorem B3S{x:D}(h:A3C Tryz.prog 28 x): ∃f:Fm,x= .agg (B9 f)∧FmFit f:=by
 obtain⟨ds,rfl,hv⟩:=A90 Tryz.underlying28 h;obtain⟨f,rfl,d⟩:=(B3R hv).1 rfl;exact⟨f,rfl,d⟩
theorem B4Z:plainB Tryz.prog [28,26,22,25,114,23,71,40,4,3,9]=true:=by kernel_rfl
theorem C1T:laidOutB Tryz.pinned.checked.prog=true:=by kernel_rfl
theorem B9G:mapsRowed Tryz.pinned.checked.prog=true:=by kernel_rfl
theorem B9H:Tryz.pinned.checked.prog.stopsHeard=true:=by kernel_rfl
theorem C5C:Tryz.pinned.checked.prog.mayEnter=true:=by kernel_rfl
end Go.Proofs.YtibphjonmikciaaGreatDoor
end
