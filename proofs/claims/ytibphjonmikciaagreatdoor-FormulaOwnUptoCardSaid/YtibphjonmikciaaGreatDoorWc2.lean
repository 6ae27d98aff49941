/- Part of the proof: what the last text builds on. No condition stands here. -/
import Derived.Test.YtibphjonmikciaaGreatDoorProg
import Derived.Test.YtibphjonmikciaaGreatDoorRows
import Derived.Test.YtibphjonmikciaaGreatDoorCards
import Derived.Test.YtibphjonmikciaaGreatDoorTie
import Derived.Test.YtibphjonmikciaaGreatDoorWc1
set_option linter.unusedSimpArgs false
set_option linter.unusedVariables false
namespace Go.Av
abbrev FEnv:=Nat→D
def FEnv.put(F:FEnv):Option Nat→D→FEnv
 |some t,d=>fun k=>if t=k then d else F k
 |none,_=>F
def FEnv.ev(F:FEnv):Operand→D
 | .tmp t=>F t
 | .const v=>D.ofValue v
 | .global g=>.glob g
 | .func f=>.fn (.func f) [] []
def U0:D→List Nat
 | .vec b _ _ _| .box b _=>[b]
 |_=>[]
def rdB:D→List Nat
 | .box b _| .el b _ _ _| .vec b _ _ _| .map b| .glob b=>[b]
 | .fn _ as_ bs=>(as_++bs).flatMap U0
 |_=>[]
theorem A1q{d:D}{b:Nat}(h:b∈U0 d):b∈rdB d:=by cases d<;>simp_all[U0,rdB]
structure Ef where
 rd:List Nat
 del:List Nat
 new:Option Obj
 at_:Option Nat
 val:Nat→D
def Ef.app(e:Ef)(b:Nat)(H:Heap):Heap:=match e.new with
 |none=>H.minus e.del
 |some o=>(H.minus e.del).set b o
def Ef.okB(e:Ef)(b:Nat)(U:Nat→Prop):Prop:=match e.new,e.at_ with
 |none,_=>True
 |some _,some c=>b=c
 |some _,none=>¬U b∨b∈e.del
def Ef.used(e:Ef)(b:Nat)(U:Nat→Prop):Nat→Prop:=match e.new with
 |none=>U
 |some _=>fun k=>U k∨k=b
def B1p(o:Option Obj):Bool:=match o with
 |some o=>o.rw
 |none=>false
structure Bl where
 l:List Nat
 no:List Nat:=[]
 may:List Nat:=[]
def A4M(Bi Bj:Bl):Prop:=(∀b∈Bj.l,b∉Bj.no→b∈Bi.l∧b∉Bi.may)∧∀b∈Bi.l,b∉Bi.no→b∈Bj.l∧b∉Bj.may
structure A58(bl:Bl)(H:Heap)(e:Ef):Prop where
 rd: ∀b∈e.rd,(b∈bl.l∧H b≠none)∧b∉bl.no
 del: ∀b∈e.del,(e.at_=none→b∉bl.l∨b∈bl.may)∧B1p (H b)=true
 new: ∀o,e.new=some o→o.rw=true
 at_: ∀b,e.at_=some b→b∈e.del
def val(d:D)(rd:List Nat):Ef:=⟨rd,[],none,none,fun _=>d⟩
def A0u(f:Nat→D)(o:Obj):Ef:=⟨[],[],some o,none,f⟩
def S1(bl:List Nat)(l:List Nat):List Nat:=l.filter fun b=> !bl.contains b
def inB(bl:List Nat)(l:List Nat):List Nat:=l.filter fun b=>bl.contains b
def B1q(P:Program)(bl:List Nat)(H:Heap)(t t':TypeId)(s x:D):Option Ef:=(G6 P t).bind fun T=>
 if 0<T.2.1∧(C7 P t'= .slice∨C7 P t'= .str)∧(G4 P T.1).map (·.length)=some T.2.1 then(M7 H T.2.1 x).bind fun xs=>match s with
  | .nilsl=>if xs.length*T.2.2≤140737488355328∧xs.length≤9223372036854775807∧xs.isEmpty=false then some ⟨inB bl (U0 x),S1 bl (U0 x),some (.vec T.2.1 xs),none,fun b=>.vec b T.2.1 0 xs.length⟩else none
  | .vec b sz' lo n=>match H b with
   |some (.vec sz'' es)=>if sz'=T.2.1∧sz''=T.2.1∧lo=0∧n≤es.length∧(n+xs.length)*T.2.2≤140737488355328∧n+xs.length≤9223372036854775807 then
     some ⟨inB bl (U0 x),b::S1 bl (U0 x),some (.vec T.2.1 (es.take n++xs)),none,fun b'=>.vec b' T.2.1 0 (n+xs.length)⟩else none
   |_=>none
  |_=>none else none
def bsE(P:Program)(t:TypeId)(len:Nat)(ps:List (Nat×D)):Option Ef:=(G6 P t).bind fun T=>if 0<T.2.1∧len*T.2.1≤16777216 then(G4 P T.1).bind fun z=>
 if z.length=T.2.1 then(A4E (List.replicate len z) ps).map fun es=>A0u (fun b=>.vec b T.2.1 0 len) (.vec T.2.1 es)else none else none
def msE(P:Program)(t:TypeId)(l c:D):Option Ef:=(G6 P t).bind fun T=>if 0<T.2.1 then(G4 P T.1).bind fun z=>match l,c with
 | .int _ n,.int _ m=>if z.length=T.2.1∧0≤n∧n≤m∧(T.2.2:Int)*m≤281474976710656∧m<9223372036854775808 then some (A0u (fun b=>.vec b T.2.1 0 n.toNat) (.vec T.2.1 (List.replicate n.toNat z)))else none
 |_,_=>none else none
theorem A5W{P:Program}{t:TypeId}{l c:D}{e:Ef}(h:msE P t l c=some e): ∃e' sz i z k n o m,G6 P t=some (e',sz,i)∧0<sz∧G4 P e'=some z∧z.length=sz∧l= .int k n∧c= .int o m∧0≤n∧n≤m∧(i:Int)*m≤281474976710656∧m<9223372036854775808∧
  e=A0u (fun b=>.vec b sz 0 n.toNat) (.vec sz (List.replicate n.toNat z)):=by
 unfold msE at h;obtain⟨⟨e',sz,i⟩,p,h⟩:=D1T.1 h;split at h
 ·rename_i h1;obtain⟨z,q,h⟩:=D1T.1 h;split at h
  ·split at h
   ·rename_i j;cases h;exact⟨e',sz,i,z,_,_,_,_,p,h1,q,j.1,rfl,rfl,j.2.1,j.2.2.1,j.2.2.2.1,j.2.2.2.2,rfl⟩
   ·cases h
  ·cases h
 ·cases h
theorem C2v{P:Program}{t:TypeId}{e' sz h:Nat}{z:List D}{k i:IntKind}{n m:Int}(j:G6 P t=some (e',sz,h))(h1:0<sz)(o:G4 P e'=some z)(p:z.length=sz)(q:0≤n)(r:n≤m)(h5:(h:Int)*m≤281474976710656)(u:m<9223372036854775808):
  msE P t (.int k n) (.int i m)=some (A0u (fun b=>.vec b sz 0 n.toNat) (.vec sz (List.replicate n.toNat z))):=by
 unfold msE;rw[j,D1l,if_pos h1,o,D1l];simp only[];rw[if_pos ⟨p,q,r,h5,u⟩]
def n8(P:Program)(t:TypeId)(a x:D)(H:Heap):Option Ef:=(Y3 P t a x H).bind fun H'=>match a with
 | .box b _| .el b _ _ _=>(H' b).map fun o=>⟨[],[b],some o,some b,fun _=>.undef⟩
 |_=>none
structure CR where
 new:Option Obj
 val:Nat→D
def CR.c(d:D):CR:=⟨none,fun _=>d⟩
def CR.f(c:CR):Nat→D:=match c.new with
 |none=>fun _=>c.val 0
 |some _=>c.val
def CR.mk'(f:Nat→D)(o:Obj):CR:=⟨some o,f⟩
def I0(P:Program)(c:CR)(bl:List Nat)(ev:Operand→D)(H:Heap)(op:Op):Option Ef:=match op with
 | .load t x=>(y5 P t (ev x) H).map fun d=>val d (rdB (ev x))
 | .lookup t m k ok=>(A1G P t (ev m) (ev k) ok H).map fun d=>val d (rdB (ev m))
 | .alloc t=>(G4 P t).map fun z=>A0u (fun b=>.box b 0) (.box z (A1h P t))
 | .box _ x=>if(ev x).cells.all D.one=true then some (A0u (fun b=>.box b 0) (.box (ev x).cells))else none
 | .buildSlice t len parts=>bsE P t len (parts.toList.map fun p=>(p.1,ev p.2))
 | .makeSlice t l c=>msE P t (ev l) (ev c)
 | .makeMap _ none=>some (A0u (fun b=>.map b) (.map []))
 | .store t a x=>n8 P t (ev a) (ev x) H
 | .call ⟨.builtin .append,args,ts⟩=>match ts.toList,args.toList with
  | [t,t'],[s,x]=>B1q P bl H t t' (ev s) (ev x)
  |_,_=>none
 | .call ⟨.value f,args,ts⟩=>match ev f with
  | .fn (.func _) first cap=>some ⟨inB bl ((first++args.toList.map ev++cap).flatMap U0),S1 bl ((first++args.toList.map ev++cap).flatMap U0),c.new,none,c.f⟩
  |_=>none
 |_=>none
def o9(P:Program)(c:CR)(bl:List Nat)(ev:Operand→D)(H:Heap)(op:Op):Option Ef:=if I4 P op= .pure then(L1 P ev op).map fun d=>val d []else I0 P c bl ev H op
def CR.post(c:CR)(H':Heap)(del:List Nat)(d:D)(H'':Heap):Prop:=match c.new with
 |none=>d=c.val 0∧(H'.minus del).Le H''
 |some o=>∃b,(H' b=none∨b∈del)∧d=c.val b∧((H'.minus del).set b o).Le H''
def B5i(P:Program)(g:Nat)(as_:List D)(H:Heap)(foot del:List Nat)(c:CR):Prop:=
 ∀H':Heap,(∀k cs,H k=some (.ro cs)→H' k=some (.ro cs))→(∀b∈foot,H' b=H b)→ACalls P g as_ H' (c.post H' del)
def O4(P:Program)(c:CR)(bl:List Nat)(ev:Operand→D)(H:Heap)(op:Op):Prop:=match op with
 | .call ⟨.value f,args,ts⟩=>match ev f with
  | .fn (.func g) first cap=>B5i P g (first++args.toList.map ev++cap) H ((first++args.toList.map ev++cap).flatMap U0) (S1 bl ((first++args.toList.map ev++cap).flatMap U0)) c
  |_=>False
 |_=>True
section
variable {P:Program} {c:CR} {bl:List Nat} {bb Bi Bj:Bl} {ev ev':Operand→D} {H H':Heap}
theorem q0{l:List Nat}{b:Nat}:b∈inB bl l↔b∈l∧b∈bl:=by simp[inB]
theorem S2{l:List Nat}{b:Nat}:b∈S1 bl l↔b∈l∧b∉bl:=by simp[S1]
theorem A2t{l:List Operand}(h: ∀x∈l,ev x=ev' x):l.map ev=l.map ev':=List.map_congr_left h
theorem A59{l:List (Nat×Operand)}(h: ∀x∈l.map (·.2),ev x=ev' x):(l.map fun p=>(p.1,ev p.2))=l.map fun p=>(p.1,ev' p.2):=
 List.map_congr_left fun p hp=>by rw[h p.2 (D2F.2 ⟨p,hp,rfl⟩)]
theorem A1r{op:Op}(hc:I4 P op= .pure)(h: ∀x∈op.operands.toList,ev x=ev' x):L1 P ev op=L1 P ev' op:=by
 cases op
 case build t parts=>
  simp only[L1,A59 (ev:=ev) (ev':=ev') (l:=parts.toList) (fun x hx=>h x (by simpa [Op.operands]using hx))]
 case slice t x lo hi m=>
  have hx:=h x (by simp[Op.operands]);have q:lo.map ev=lo.map ev':=by
   cases lo with
   |none=>rfl
   |some l=>simp only[Option.map_some,h l (by simp[Op.operands])]
  have u:hi.map ev=hi.map ev':=by
   cases hi with
   |none=>rfl
   |some l=>simp only[Option.map_some,h l (by simp[Op.operands])]
  cases m<;>simp only[L1,hx,q,u]
 case makeFunc fn first cap=>
  simp only[L1,A2t (l:=first.toList) (fun x hx=>h x (by simp[Op.operands];exact .inl (by simpa using hx))),A2t (l:=cap.toList) (fun x hx=>h x (by simp[Op.operands];exact .inr (by simpa using hx)))]
 case call cc=>
  obtain⟨callee,args,o⟩:=cc;cases callee with
  |value f=>simp[I4]at hc
  |invoke r m=>simp[I4]at hc
  |builtin b=>
   have p: ∀x∈args.toList,ev x=ev' x:=fun x hx=>h x (by simp[Op.operands,Call.operands]at*;exact hx);cases b<;>try(simp[I4]at hc;done)
   case len=>
    simp only[L1];cases h1:o[0]? with
    |none=>rfl
    |some t=>
     cases y:args[0]? with
     |none=>rfl
     |some x=>simp only[p x (by rw[D1w];exact Array.mem_of_getElem? y)]
   case cap=>
    simp only[L1];cases h1:o[0]? with
    |none=>rfl
    |some t=>
     cases y:args[0]? with
     |none=>rfl
     |some x=>simp only[Option.map_some,p x (by rw[D1w];exact Array.mem_of_getElem? y)]
   case min=>simp only[L1,A2t p]
   case max=>simp only[L1,A2t p]
 all_goals first
  |rfl
  |(simp only[Op.operands,Array.toList_toArray,D1j,D1k,or_false,i,j]at h;simp only[L1,h];done)
  |(simp only[Op.operands]at h;simp at h;simp only[L1,h];done)
  |(simp[I4]at hc;done)
theorem U2{op:Op}(hc:I4 P op= .pure):o9 P c bl ev H op=(L1 P ev op).map fun d=>val d []:=if_pos hc
theorem I5{op:Op}(hc:I4 P op≠ .pure):o9 P c bl ev H op=I0 P c bl ev H op:=if_neg hc
theorem y9{op:Op}(h: ∀x∈op.operands.toList,ev x=ev' x):o9 P c bl ev H op=o9 P c bl ev' H op:=by
 by_cases hc:I4 P op= .pure
 ·rw[U2 hc,U2 hc,A1r hc h]
 ·rw[I5 hc,I5 hc];cases op
  case load t x=>simp only[I0,h x (by simp[Op.operands])]
  case lookup t m k ok=>simp only[I0,h m (by simp[Op.operands]),h k (by simp[Op.operands])]
  case box t x=>simp only[I0,h x (by simp[Op.operands])]
  case makeSlice t l c=>simp only[I0,h l (by simp[Op.operands]),h c (by simp[Op.operands])]
  case buildSlice t n parts=>simp only[I0,A59 (ev:=ev) (ev':=ev') (l:=parts.toList) (fun x hx=>h x (by simpa [Op.operands]using hx))]
  case store t a x=>simp only[I0,h a (by simp[Op.operands]),h x (by simp[Op.operands])]
  case call cc=>
   obtain⟨callee,args,j⟩:=cc;cases callee with
   |value f=>
    have o:=h f (by simp[Op.operands,Call.operands]);have p:=A2t (ev:=ev) (ev':=ev') (l:=args.toList) (fun x hx=>h x (by simp[Op.operands,Call.operands];exact .inr (by simpa using hx)));simp only[I0,o,p]
   |invoke r m=>simp[I0]
   |builtin b=>
    cases b
    case append=>
     unfold I0;simp only;split
     ·rename_i t q s x h1 i;rw[h s (by simp[Op.operands,Call.operands,←D1w,i]),h x (by simp[Op.operands,Call.operands,←D1w,i])]
     ·rfl
    all_goals rfl
  case makeMap t r=>cases r<;>simp[I0]
  all_goals first
   |rfl
theorem q8{op:Op}(h: ∀x∈op.operands.toList,ev x=ev' x):O4 P c bl ev H op=O4 P c bl ev' H op:=by
 cases op
 case call cc=>
  obtain⟨callee,args,i⟩:=cc;cases callee with
  |value f=>
   have j:=h f (by simp[Op.operands,Call.operands]);have m:=A2t (ev:=ev) (ev':=ev') (l:=args.toList) (fun x hx=>h x (by simp[Op.operands,Call.operands];exact .inr (by simpa using hx)));simp only[O4,j,m]
  |_=>rfl
 all_goals rfl
def B2z(ev:Operand→D)(op:Op):List Nat:=op.operands.toList.flatMap fun x=>rdB (ev x)
theorem N0{op:Op}{x:Operand}{b:Nat}(hx:x∈op.operands.toList)(hb:b∈rdB (ev x)):b∈B2z ev op:=List.mem_flatMap.2 ⟨x,hx,hb⟩
theorem A96{sz:Nat}{x:D}{es:List (List D)}(h:M7 H sz x=some es)(i: ∀b∈U0 x,H' b=H b):M7 H' sz x=some es:=by
 cases x<;>simp only[M7]at h⊢ <;>try exact h
 rename_i b s lo n;rw[i b (by simp[U0])];exact h
theorem A7W{x:D}{cs:List D}(h:A4D H x=some cs)(i: ∀b∈rdB x,H' b=H b):A4D H' x=some cs:=by
 cases x<;>simp only[A4D]at h⊢ <;>try exact h
 all_goals (rw[i _ (by simp[rdB])];exact h)
theorem B4F{x:D}{kvs:List (D×D)}(h:X7 H x=some kvs)(i: ∀b∈rdB x,H' b=H b):X7 H' x=some kvs:=by
 cases x<;>simp only[X7]at h⊢ <;>try exact h
 all_goals (rw[i _ (by simp[rdB])];exact h)
theorem A2u{op:Op}{e:Ef}(h:o9 P c bl ev H op=some e)(q: ∀b,b∈e.rd∨b∈e.del→H' b=H b):o9 P c bl ev H' op=some e:=by
  by_cases hc:I4 P op= .pure
  · rw[U2 hc]at h⊢;exact h
  · rw[I5 hc]at h⊢
    cases op
    case load t x=>
      simp only[I0,D1Q]at h⊢;obtain⟨d,hd,rfl⟩:=h;refine⟨d,?_,rfl⟩;unfold y5 at hd⊢;obtain⟨s,hs,hd⟩:=D1T.1 hd;obtain⟨cs,u,hd⟩:=D1T.1 hd;rw[hs,D1l,A7W u (fun b hb=>q b (.inl hb))];exact hd
    case lookup t m k ok=>
      simp only[I0,D1Q]at h⊢;obtain⟨d,hd,rfl⟩:=h;refine⟨d,?_,rfl⟩;unfold A1G at hd⊢;obtain⟨T,W,hd⟩:=D1T.1 hd;rw[W,D1l];split at hd
      · rename_i hk
        rw[if_pos hk];obtain⟨z,hz,hd⟩:=D1T.1 hd;obtain⟨kvs,J,hd⟩:=D1T.1 hd;rw[hz,D1l,B4F J (fun b hb=>q b (.inl hb))];exact hd
      · cases hd
    case alloc t=>exact h
    case box t x=>exact h
    case makeSlice t l c=>exact h
    case buildSlice t n parts=>exact h
    case store t a x=>
      simp only[I0,n8]at h⊢;obtain⟨H1,hs,h⟩:=D1T.1 h
      have key: ∀b,(ev a= .box b 0∨True)→rdB (ev a)= [b]→H' b=H b→∃V,Y3 P t (ev a) (ev x) H'=some V∧V b=H1 b:=by
        intro b _ M hb;unfold Y3 at hs⊢;split at hs
        · rename_i j
          rw[if_pos j];split at hs
          · rename_i O off y
            have : O = b := by have:rdB (ev a)= [O]:=by rw[y];rfl
                               rw[M]at this;simpa using this.symm
            subst this;rw[hb];split at hs
            · rename_i cs Z u
              split at hs
              · rename_i A
                cases hs;refine⟨_,by rw[if_pos A],?_⟩;simp[Heap.set]
              · cases hs
            · cases hs
          · rename_i O sz i off y
            have : O = b := by have:rdB (ev a)= [O]:=by rw[y];rfl
                               rw[M]at this;simpa using this.symm
            subst this;rw[hb];split at hs
            · rename_i sz' es u
              split at hs
              · rename_i A
                cases hs;refine⟨_,by rw[if_pos A],?_⟩;simp[Heap.set]
              · cases hs
            · cases hs
          · cases hs
        · cases hs
      cases G:ev a with
      |box b off=>
        rw[G]at h;simp only at h;obtain⟨o,ho,rfl⟩:=D1Q.1 h;obtain⟨V,I,X⟩:=key b (.inr trivial) (by rw[G];rfl) (q b (.inr (by simp)));rw[G]at I;rw[I,D1l];simp only[X,ho,Option.map_some]
      |el b sz i off=>
        rw[G]at h;simp only at h;obtain⟨o,ho,rfl⟩:=D1Q.1 h;obtain⟨V,I,X⟩:=key b (.inr trivial) (by rw[G];rfl) (q b (.inr (by simp)));rw[G]at I;rw[I,D1l];simp only[X,ho,Option.map_some]
      |_=>rw[G]at h;simp at h
    case call cc=>
      obtain⟨callee,args,a0⟩:=cc;cases callee with
      |value f=>exact h
      |invoke r m=>simp[I0]at h
      |builtin b=>
        cases b
        case append=>
          unfold I0 at h⊢;simp only at h⊢;split at h
          · rename_i t t' s x h1 I
            unfold B1q at h⊢;obtain⟨T,W,h⟩:=D1T.1 h;rw[W,D1l];split at h
            · rename_i j
              rw[if_pos j];obtain⟨xs,Y,h⟩:=D1T.1 h;have hx: ∀b,b∈U0 (ev x)→(b∈e.rd∨b∈e.del)→H' b=H b:=fun b _ hb=>q b hb
              have U: ∀b∈U0 (ev x),b∈e.rd∨b∈e.del:=by
                intro b hb;split at h
                · split at h
                  · cases h
                    by_cases p:b∈bl
                    · exact .inl (q0.2 ⟨hb,p⟩)
                    · exact .inr (S2.2 ⟨hb,p⟩)
                  · cases h
                · split at h
                  · split at h
                    · cases h
                      by_cases p:b∈bl
                      · exact .inl (q0.2 ⟨hb,p⟩)
                      · exact .inr (D1Z _ (S2.2 ⟨hb,p⟩))
                    · cases h
                  · cases h
                · cases h
              rw[A96 Y (fun b hb=>q b (U b hb)),D1l];cases hs:ev s with
              |vec b sz' lo n=>
                rw[hs]at h;simp only at h⊢
                have hb:H' b=H b:=by
                  split at h
                  · split at h
                    · cases h;exact q b (.inr (by simp))
                    · cases h
                  · cases h
                rw[hb];exact h
              |_=>rw[hs]at h;exact h
            · cases h
          · cases h
        all_goals cases h
    case makeMap t r=>
      cases r with
      |none=>exact h
      |some r=>simp[I0]at h
    all_goals cases h
theorem A3S{op:Op}{e:Ef}(h:O4 P c bl ev H op)(hr:o9 P c bl ev H op=some e)(hro: ∀k cs,H' k=some (.ro cs)→H k=some (.ro cs))(i: ∀k cs,H k=some (.ro cs)→H' k=some (.ro cs))(m: ∀b,b∈e.rd∨b∈e.del→H' b=H b):O4 P c bl ev H' op:=by
 cases op
 case call cc=>
  obtain⟨callee,args,o⟩:=cc;cases callee with
  |value f=>
   rw[I5 (by simp[I4])]at hr;simp only[O4,I0]at h hr⊢;split at h
   ·rename_i g first cap hf
    rw[hf]at hr;simp only[D1t]at hr;subst hr;intro p h1 q;refine h p (fun k cs hk=>h1 k cs (i k cs hk)) (fun b hb=>?_);rw[q b hb];by_cases j:b∈bl
    ·exact m b (.inl (q0.2 ⟨hb,j⟩))
    ·exact m b (.inr (S2.2 ⟨hb,j⟩))
   ·exact h
  |_=>exact h
 all_goals exact h
theorem B4G{op:Op}{e:Ef}(h:o9 P c bl ev H op=some e): ∀b,b∈e.rd∨b∈e.del→b∈B2z ev op:=by
 by_cases hc:I4 P op= .pure
 ·rw[U2 hc]at h;obtain⟨d,_,rfl⟩:=D1Q.1 h;intro b hb;simp[val]at hb
 ·rw[I5 hc]at h;cases op
  case load t x=>
   simp only[I0,D1Q]at h;obtain⟨d,hd,rfl⟩:=h;intro b hb;simp[val]at hb;exact N0 (x:=x) (by simp[Op.operands]) hb
  case lookup t m k ok=>
   simp only[I0,D1Q]at h;obtain⟨d,hd,rfl⟩:=h;intro b hb;simp[val]at hb;exact N0 (x:=m) (by simp[Op.operands]) hb
  case alloc t=>
   simp only[I0,D1Q]at h;obtain⟨d,hd,rfl⟩:=h;intro b hb;simp[A0u]at hb
  case box t x=>
   simp only[I0]at h;split at h
   ·cases h;intro b hb;simp[A0u]at hb
   ·cases h
  case makeSlice t l c=>
   simp only[I0]at h;obtain⟨_,_,_,_,_,_,_,_,_,_,_,_,_,_,_,_,_,_,rfl⟩:=A5W h;intro b hb;simp[A0u]at hb
  case buildSlice t n parts=>
   simp only[I0,bsE]at h;obtain⟨T,G,h⟩:=D1T.1 h;split at h
   ·obtain⟨z,M,h⟩:=D1T.1 h;split at h
    ·obtain⟨es,I,rfl⟩:=D1Q.1 h;intro b hb;simp[A0u]at hb
    ·cases h
   ·cases h
  case store t a x=>
   simp only[I0,n8]at h;obtain⟨O,hs,h⟩:=D1T.1 h;cases p:ev a with
   |box b off=>
    rw[p]at h;simp only at h;obtain⟨o,ho,rfl⟩:=D1Q.1 h;intro k hk;simp at hk;subst hk;exact N0 (x:=a) (by simp[Op.operands]) (by rw[p];simp[rdB])
   |el b sz i off=>
    rw[p]at h;simp only at h;obtain⟨o,ho,rfl⟩:=D1Q.1 h;intro k hk;simp at hk;subst hk;exact N0 (x:=a) (by simp[Op.operands]) (by rw[p];simp[rdB])
   |_=>rw[p]at h;simp at h
  case call cc=>
   obtain⟨callee,args,q⟩:=cc;cases callee with
   |value f=>
    simp only[I0]at h;split at h
    ·rename_i g first cap hf
     cases h;intro b hb;have u:b∈(first++args.toList.map ev++cap).flatMap U0:=by
      rcases hb with hb|hb
      ·exact(q0.1 hb).1
      ·exact(S2.1 hb).1
     obtain⟨d,hd,j⟩:=List.mem_flatMap.1 u;simp only[D1h,D2F]at hd;rcases hd with(hd|⟨x,hx,rfl⟩)|hd
     ·exact N0 (x:=f) (by simp[Op.operands,Call.operands]) (by rw[hf];exact List.mem_flatMap.2 ⟨d,by simp[hd],j⟩)
     ·exact N0 (x:=x) (by simp[Op.operands,Call.operands];exact .inr (by simpa using hx)) (A1q j)
     ·exact N0 (x:=f) (by simp[Op.operands,Call.operands]) (by rw[hf];exact List.mem_flatMap.2 ⟨d,by simp[hd],j⟩)
    ·cases h
   |invoke r m=>simp[I0]at h
   |builtin b=>
    cases b
    case append=>
     unfold I0 at h;simp only at h;split at h
     ·rename_i t U s x h1 A;have hs:s∈(Op.call ⟨.builtin .append,args,q⟩).operands.toList:=by simp[Op.operands,Call.operands,←D1w,A]
      have hx:x∈(Op.call ⟨.builtin .append,args,q⟩).operands.toList:=by simp[Op.operands,Call.operands,←D1w,A]
      unfold B1q at h;obtain⟨T,G,h⟩:=D1T.1 h;split at h
      ·obtain⟨xs,J,h⟩:=D1T.1 h;split at h
       ·split at h
        ·cases h;intro b hb;rcases hb with hb|hb
         ·exact N0 hx (A1q (q0.1 hb).1)
         ·exact N0 hx (A1q (S2.1 hb).1)
        ·cases h
       ·rename_i V sz' lo n y;split at h
        ·split at h
         ·cases h;intro b hb;rcases hb with hb|hb
          ·exact N0 hx (A1q (q0.1 hb).1)
          ·rcases D1j.1 hb with rfl|hb
           ·exact N0 hs (by rw[y];simp[rdB])
           ·exact N0 hx (A1q (S2.1 hb).1)
         ·cases h
        ·cases h
       ·cases h
      ·cases h
     ·cases h
    all_goals cases h
  case makeMap t r=>
   cases r with
   |none=>simp only[I0,D1t]at h;subst h;intro b hb;simp[A0u]at hb
   |some r=>simp[I0]at h
  all_goals cases h
abbrev Kf:=FEnv→Heap→(Nat→Prop)→Prop
def H7(gs:List (Option Nat))(j:Nat):Option Nat:=(gs[j]?).getD none
def A1s(E:Env)(s:Option Nat)(want:Bool)(run skip:Env→Prop):Prop:=match s with
 |none=>skip E
 |some s=>(E.get s= .tuple []∧skip E)∨∃b,E.get s= .bool b∧(b=want→run ((s,.bool want)::E))∧(b= !want→skip ((s,.bool (!want))::E))
def A2i(gs:List (Option Nat))(F:FEnv):Option (Nat×Bool)→Option Bool
 |none=>some true
 |some (j,want)=>match H7 gs j with
  |none=>some false
  |some s=>match F s with
   | .tuple []=>some false
   | .bool b=>some (b==want)
   |_=>none
def A0Q(P:Program)(c:CR)(bl:Bl)(o:Oper)(K:Kf):Kf:=fun F H U=>∃e,o9 P c bl.l F.ev H o.op=some e∧A58 bl H e∧O4 P c bl.l F.ev H o.op∧
 ∀b,e.okB b U→K (F.put o.dst (e.val b)) (e.app b H) (e.used b U)
def A0R(P:Program)(gs:List (Option Nat))(c:CR)(bl:Bl)(o:Oper)(K:Kf):Kf:=fun F H U=>(A2i gs F o.guard=some true∧A0Q P c bl o K F H U)∨(A2i gs F o.guard=some false∧K (F.put o.dst (.tuple [])) H U)
theorem A1J{o:Oper}{K i:Kf}{F:FEnv}{H:Heap}{U:Nat→Prop}(h: ∀v H U,K (F.put o.dst v) H U→i (F.put o.dst v) H U)(hk:A0Q P c bb o K F H U):A0Q P c bb o i F H U:=
 let ⟨e,h2,h3,h4,h5⟩:=hk;⟨e,h2,h3,h4,fun b hb=>h _ _ _ (h5 b hb)⟩
theorem A1K{i:List (Option Nat)}{o:Oper}{K j:Kf}(h: ∀F H U,K F H U→j F H U){F:FEnv}{H:Heap}{U:Nat→Prop}(hk:A0R P i c bb o K F H U):A0R P i c bb o j F H U:=
 hk.imp (fun hk=>⟨hk.1,A1J (fun _ _ _=>h _ _ _) hk.2⟩) fun hk=>⟨hk.1,h _ _ _ hk.2⟩
theorem C2w{F:FEnv}{dst:Option Tmp}{d:D}{x:Operand}(h: ∀t,dst=some t→x≠ .tmp t):(F.put dst d).ev x=F.ev x:=by
 cases dst with
 |none=>rfl
 |some t=>
  cases x with
  |tmp u=>
   have:t≠u:=fun e=>h t rfl (by rw[e]);simp[FEnv.ev,FEnv.put,this]
  |_=>rfl
theorem Q4{F:FEnv}{ops:Array Oper}{o:Oper}{dst:Option Tmp}{d:D}(h: ∀t,dst=some t→t∉o.looksAt ops): ∀x∈o.op.operands.toList,(F.put dst d).ev x=F.ev x:=fun x hx=>
 C2w fun t ht i=>h t ht (by subst i;exact List.mem_append_left _ (List.mem_filterMap.2 ⟨.tmp t,hx,rfl⟩))
theorem A1t{F:FEnv}{x y:Option Tmp}{d d':D}(h: ∀t,x=some t→y≠some t):(F.put x d).put y d'=(F.put y d').put x d:=by
 funext k
 cases x with
 |none=>rfl
 |some t=>
  cases y with
  |none=>rfl
  |some u=>
   have:t≠u:=fun e=>h t rfl (by rw[e]);simp only[FEnv.put];by_cases h1:t=k<;>by_cases i:u=k<;>simp[h1,i];exact absurd (h1.trans i.symm) this
structure Dom(H:Heap)(U:Nat→Prop):Prop where
 dom: ∀b,H b≠none→U b
 fin: ∀l:List Nat,∃b,¬U b∧b∉l
theorem Dom.app{H:Heap}{U:Nat→Prop}(h:Dom H U){e:Ef}{b:Nat}(hb:e.okB b U):Dom (e.app b H) (e.used b U):=by
 have hm: ∀k,(H.minus e.del) k≠none→U k:=fun k hk=>h.dom k fun m=>hk (by unfold Heap.minus;split;rfl;exact m);unfold Ef.app Ef.used;cases hn:e.new with
 |none=>exact⟨hm,h.fin⟩
 |some o=>
  refine⟨fun k hk=>?_,fun l=>?_⟩
  ·by_cases i:k=b
   ·exact .inr i
   ·simp only[Heap.set,if_neg i]at hk;exact .inl (hm k hk)
  ·obtain⟨x,h1,j⟩:=h.fin (b::l);simp only[D1j,not_or]at j;exact⟨x,fun hx=>hx.elim h1 j.1,j.2⟩
theorem A2L{e:Ef}{b k:Nat}{H:Heap}(hd:k∉e.del)(hb:e.new≠none→k≠b):e.app b H k=H k:=by
 unfold Ef.app;cases hn:e.new with
 |none=>simp[Heap.minus,hd]
 |some o=>simp[Heap.set,Heap.minus,hd,hb (by rw[hn];simp)]
theorem B5j{e:Ef}{b k:Nat}{H:Heap}{cs:List D}(h:A58 bb H e)(hk:e.app b H k=some (.ro cs)):H k=some (.ro cs):=by
 unfold Ef.app at hk;have hm:(H.minus e.del) k=some (.ro cs)→H k=some (.ro cs):=fun hk=>by
  unfold Heap.minus at hk;split at hk
  ·cases hk
  ·exact hk
 cases hn:e.new with
 |none=>rw[hn]at hk;exact hm hk
 |some o=>
  rw[hn]at hk;simp only[Heap.set]at hk;split at hk
  ·cases hk;have:=h.new _ hn;simp[Obj.rw]at this
  ·exact hm hk
theorem B20{e:Ef}{b k:Nat}{H:Heap}{U:Nat→Prop}{cs:List D}(h:A58 bb H e)(m: ∀b,H b≠none→U b)(hb:e.okB b U)(hk:H k=some (.ro cs)):e.app b H k=some (.ro cs):=by
 have hd:k∉e.del:=fun hd=>by have:=(h.del k hd).2;rw[hk]at this;simp[B1p,Obj.rw]at this
 rw[A2L hd fun hn he=>?_]
 ·exact hk
 ·subst he;unfold Ef.okB at hb;cases i:e.new with
  |none=>exact hn i
  |some o=>
   rw[i]at hb;cases j:e.at_ with
   |none=>
    rw[j]at hb;rcases hb with hb|hb
    ·exact hb (m k (by rw[hk];simp))
    ·exact hd hb
   |some c=>
    rw[j]at hb;subst hb;exact hd (h.at_ _ j)
theorem B5k{i j:Ef}{bi m:Nat}{H:Heap}(h1: ∀b∈i.del,b∉j.del)(p:i.new≠none→j.new≠none→bi≠m)(q:i.new≠none→bi∉j.del)(h:j.new≠none→m∉i.del):j.app m (i.app bi H)=i.app bi (j.app m H):=by
 funext k
 unfold Ef.app;cases A:i.new with
 |none=>
  cases r:j.new with
  |none=>simp only[Heap.minus];by_cases x:k∈i.del<;>by_cases y:k∈j.del<;>simp[x,y]
  |some o=>
   rw[r]at h;have h:=h (by simp);simp only[Heap.minus,Heap.set];by_cases z:k=m
   ·subst z;simp[h]
   ·by_cases x:k∈i.del<;>by_cases y:k∈j.del<;>simp[x,y,z]
 |some G=>
  rw[A]at p q;have q:=q (by simp);cases r:j.new with
  |none=>
   simp only[Heap.minus,Heap.set];by_cases z:k=bi
   ·subst z;simp[q]
   ·by_cases x:k∈i.del<;>by_cases y:k∈j.del<;>simp[x,y,z]
  |some o=>
   rw[r]at p h;have h:=h (by simp);have p:=p (by simp) (by simp);simp only[Heap.minus,Heap.set];by_cases z:k=bi
   ·subst z;simp[q,p]
   ·by_cases u:k=m
    ·subst u;simp[h,z]
    ·by_cases x:k∈i.del<;>by_cases y:k∈j.del<;>simp[x,y,z,u]
theorem A97{e:Ef}{b k:Nat}{U:Nat→Prop}(h:U k):e.used b U k:=by
 unfold Ef.used;cases e.new with
 |none=>exact h
 |some o=>exact .inl h
theorem B5l{e:Ef}{b:Nat}{U:Nat→Prop}(h:e.new≠none):e.used b U b:=by
 unfold Ef.used;cases hn:e.new with
 |none=>exact absurd hn h
 |some o=>exact .inr rfl
theorem used_inv{e:Ef}{b k:Nat}{U:Nat→Prop}(h:e.used b U k):U k∨(e.new≠none∧k=b):=by
 unfold Ef.used at h;cases hn:e.new with
 |none=>rw[hn]at h;exact .inl h
 |some o=>rw[hn]at h;exact h.imp id fun h=>⟨by simp,h⟩
theorem B4H{i j:Ef}{bi h:Nat}{U:Nat→Prop}:j.used h (i.used bi U)=i.used bi (j.used h U):=by
 unfold Ef.used;cases i.new<;>cases j.new<;>try rfl
 funext k
 apply propext;simp only[or_assoc,or_comm (a:=k=bi)]
def A0v(P:Program)(oi oj:Op):Bool:=(!A1C oi||I4 P oj== .pure)&&(!A1C oj||I4 P oi== .pure)
theorem A98{o:Op}{e:Ef}{ev:Operand→D}{H:Heap}(h:o9 P c bl ev H o=some e)(hs:A1C o=false):e.at_=none:=by
 by_cases hc:I4 P o= .pure
 ·rw[U2 hc]at h;obtain⟨d,_,rfl⟩:=D1Q.1 h;rfl
 ·rw[I5 hc]at h;cases o
  case load t x=>simp only[I0,D1Q]at h;obtain⟨d,_,rfl⟩:=h;rfl
  case lookup t m k ok=>simp only[I0,D1Q]at h;obtain⟨d,_,rfl⟩:=h;rfl
  case alloc t=>simp only[I0,D1Q]at h;obtain⟨d,_,rfl⟩:=h;rfl
  case box t x=>simp only[I0]at h;split at h<;>cases h;rfl
  case makeSlice t l c=>
   simp only[I0]at h;obtain⟨_,_,_,_,_,_,_,_,_,_,_,_,_,_,_,_,_,_,rfl⟩:=A5W h;rfl
  case buildSlice t n parts=>
   simp only[I0,bsE]at h;obtain⟨T,i,h⟩:=D1T.1 h;split at h
   ·obtain⟨z,u,h⟩:=D1T.1 h;split at h
    ·obtain⟨es,j,rfl⟩:=D1Q.1 h;rfl
    ·cases h
   ·cases h
  case store t a x=>simp[A1C]at hs
  case call cc=>
   obtain⟨callee,args,p⟩:=cc;cases callee with
   |value f=>
    simp only[I0]at h;split at h<;>cases h;rfl
   |invoke r m=>simp[I0]at h
   |builtin b=>
    cases b
    case append=>
     unfold I0 at h;simp only at h;split at h
     ·unfold B1q at h;obtain⟨T,i,h⟩:=D1T.1 h;split at h
      ·obtain⟨xs,q,h⟩:=D1T.1 h;split at h
       ·split at h<;>cases h;rfl
       ·split at h
        ·split at h<;>cases h;rfl
        ·cases h
       ·cases h
      ·cases h
     ·cases h
    all_goals cases h
  case makeMap t r=>
   cases r with
   |none=>simp only[I0,D1t]at h;subst h;rfl
   |some r=>simp[I0]at h
  all_goals cases h
theorem A2M{o:Op}{e:Ef}{ev:Operand→D}{H:Heap}(h:o9 P c bl ev H o=some e)(hc:I4 P o= .pure):e.rd= []∧e.del= []∧e.new=none:=by
 rw[U2 hc]at h;obtain⟨d,_,rfl⟩:=D1Q.1 h;exact⟨rfl,rfl,rfl⟩
theorem B1r{ops:Array Oper}{oi oj:Oper}{ci cj:CR}{K:Kf}{F:FEnv}{H:Heap}{U:Nat→Prop}(d3:oi.apart ops oj=true)(J:A0v P oi.op oj.op=true)(hB:A4M Bi Bj)(hD:Dom H U)
  (h:A0Q P ci Bi oi (A0Q P cj Bj oj K) F H U):A0Q P cj Bj oj (A0Q P ci Bi oi K) F H U:=by
 obtain⟨d4,b4⟩:=hB;obtain⟨a1,a2,a3⟩:=Oper.apart_spec d3;obtain⟨m,ri,p,a6,hi⟩:=h;simp only[A0v,D1U,D2e,Bool.not_eq_true',beq_iff_eq]at J
 --a name for the first one's block that the second one does not name
 obtain⟨M,b6,b7⟩: ∃M,m.okB M U∧(m.new≠none→m.at_=none→M∉B2z F.ev oj.op∧¬U M):=by
  obtain⟨x,b8,d5⟩:=hD.fin (B2z F.ev oj.op);cases hn:m.new with
  |none=>exact⟨x,by unfold Ef.okB;rw[hn];trivial,fun h=>absurd rfl h⟩
  |some o=>
   cases r:m.at_ with
   |none=>exact⟨x,by unfold Ef.okB;rw[hn,r];exact .inl b8,fun _ _=>⟨d5,b8⟩⟩
   |some y=>exact⟨y,by unfold Ef.okB;rw[hn,r],fun _ h=>by cases h⟩
 have W: ∀y,m.at_=some y→I4 P oj.op= .pure:=fun y hy=>by
  rcases J.1 with h|h
  ·rw[A98 ri h]at hy;cases hy
  ·exact h
 obtain⟨q,rj,z,a9,_⟩:=hi M b6;have I:o9 P cj Bj.l F.ev (m.app M H) oj.op=some q:=by rw[←rj];exact(y9 (Q4 a1)).symm
 have d6:O4 P cj Bj.l F.ev (m.app M H) oj.op:=by rw[←q8 (Q4 (F:=F) (d:=m.val M) a1)];exact a9
 have b9: ∀y,q.at_=some y→I4 P oi.op= .pure:=fun y hy=>by
  rcases J.2 with h|h
  ·rw[A98 I h]at hy;cases hy
  ·exact h
 --what the second one names,the first one lets be
 have c0: ∀b,b∈q.rd∨b∈q.del→m.new≠none→b≠M:=fun b hb hn he=>by
  subst he;cases r:m.at_ with
  |none=>exact(b7 hn r).1 (B4G I b hb)
  |some y=>
   obtain⟨e1,e2,_⟩:=A2M I (W y r);rw[e1,e2]at hb;simp at hb
 have O: ∀b∈q.del,b∉m.del:=fun b hb i=>by
  have h1:=(z.del b hb).2;have h2:m.app M H b=none:=by
   unfold Ef.app;cases hn:m.new with
   |none=>simp[Heap.minus,i]
   |some o=>simp[Heap.set,Heap.minus,i,c0 b (.inr hb) (by rw[hn];simp)]
  rw[h2]at h1;cases h1
 have b1: ∀b∈q.rd,b∉m.del:=fun b hb i=>by
  cases r:m.at_ with
  |none=>
   have Y:=d4 b (z.rd b hb).1.1 (z.rd b hb).2;rcases(p.del b i).1 r with g|g
   ·exact g Y.1
   ·exact Y.2 g
  |some y=>rw[(A2M I (W y r)).1]at hb;cases hb
 have A: ∀b,b∈q.rd∨b∈q.del→m.app M H b=H b:=fun b hb=>A2L (hb.elim (b1 b) (O b)) (c0 b hb);have c2:o9 P cj Bj.l F.ev H oj.op=some q:=A2u I fun b hb=>(A b hb).symm;have u:A58 Bj H q:=⟨fun b hb=>⟨⟨(z.rd b hb).1.1,by rw[←A b (.inl hb)];exact(z.rd b hb).1.2⟩,(z.rd b hb).2⟩,fun b hb=>⟨(z.del b hb).1,by rw[←A b (.inr hb)];exact(z.del b hb).2⟩,z.new,z.at_⟩
 have d7:O4 P cj Bj.l F.ev H oj.op:=A3S d6 I (fun k cs hk=>B20 p hD.dom b6 hk) (fun k cs hk=>B5j p hk) (fun b hb=>(A b hb).symm);refine⟨q,c2,u,d7,fun T j=>?_⟩
 --the first one behind the second one
 have c4: ∀b,B1p (H b)=true→U b:=fun b hb=>hD.dom b fun h=>by rw[h]at hb;cases hb
 have b2: ∀b,b∈m.rd∨b∈m.del→q.new≠none→b≠T:=fun b hb hn he=>by
  subst he;unfold Ef.okB at j;cases a0:q.new with
  |none=>exact hn a0
  |some o=>
   rw[a0]at j;cases r:q.at_ with
   |none=>
    rw[r]at j;rcases j with j|j
    ·rcases hb with hb|hb
     ·exact j (hD.dom b (p.rd b hb).1.2)
     ·exact j (c4 b (p.del b hb).2)
    ·rcases hb with hb|hb
     ·have Y:=b4 b (p.rd b hb).1.1 (p.rd b hb).2;rcases(u.del b j).1 r with g|g
      ·exact g Y.1
      ·exact Y.2 g
     ·exact O b j hb
   |some y=>
    obtain⟨e1,e2,_⟩:=A2M ri (b9 y r);rw[e1,e2]at hb;simp at hb
 have c5: ∀b,b∈m.rd∨b∈m.del→b∉q.del:=fun b hb j=>by
  rcases hb with hb|hb
  ·cases r:q.at_ with
   |none=>
    have Y:=b4 b (p.rd b hb).1.1 (p.rd b hb).2;rcases(u.del b j).1 r with g|g
    ·exact g Y.1
    ·exact Y.2 g
   |some y=>rw[(A2M ri (b9 y r)).1]at hb;cases hb
  ·exact O b j hb
 have G: ∀b,b∈m.rd∨b∈m.del→q.app T H b=H b:=fun b hb=>A2L (c5 b hb) (b2 b hb);have d8:o9 P ci Bi.l (F.put oj.dst (q.val T)).ev (q.app T H) oi.op=some m:=by
  rw[y9 (Q4 a3)];exact A2u ri G
 have c6:A58 Bi (q.app T H) m:=⟨fun b hb=>⟨⟨(p.rd b hb).1.1,by rw[G b (.inl hb)];exact(p.rd b hb).1.2⟩,(p.rd b hb).2⟩,fun b hb=>⟨(p.del b hb).1,by rw[G b (.inr hb)];exact(p.del b hb).2⟩,p.new,p.at_⟩
 have e0:O4 P ci Bi.l (F.put oj.dst (q.val T)).ev (q.app T H) oi.op:=by
  rw[q8 (Q4 a3)];exact A3S a6 ri (fun k cs hk=>B5j u hk) (fun k cs hk=>B20 u hD.dom j hk) G
 refine⟨m,d8,c6,e0,fun bi i=>?_⟩
 --the names are apart
 have c7:m.okB bi U:=by
  unfold Ef.okB at i⊢;cases hn:m.new with
  |none=>trivial
  |some o=>
   rw[hn]at i;cases r:m.at_ with
   |none=>
    rw[r]at i;exact i.imp (fun h hU=>h (A97 hU)) id
   |some y=>rw[r]at i;exact i
 have c8:m.new≠none→q.new≠none→bi≠T:=fun hn hm he=>by
  subst he;unfold Ef.okB at i;cases V:m.new with
  |none=>exact hn V
  |some o=>
   rw[V]at i;cases r:m.at_ with
   |none=>
    rw[r]at i;rcases i with i|i
    ·exact i (B5l hm)
    ·exact b2 bi (.inr i) hm rfl
   |some y=>exact hm (A2M I (W y r)).2.2
 have c9: ∀b,b∈q.rd∨b∈q.del→m.new≠none→b≠bi:=fun b hb hn he=>by
  subst he;unfold Ef.okB at i;cases V:m.new with
  |none=>exact hn V
  |some o=>
   rw[V]at i;cases r:m.at_ with
   |none=>
    rw[r]at i;rcases i with i|i
    ·apply i;have:U b:=by
      rcases hb with hb|hb
      ·exact hD.dom b (u.rd b hb).1.2
      ·exact c4 b (u.del b hb).2
     exact A97 this
    ·exact c5 b (.inr i) (by rcases hb with hb|hb;exact absurd i (b1 b hb);exact hb)
   |some y=>
    obtain⟨e1,e2,_⟩:=A2M I (W y r);rw[e1,e2]at hb;simp at hb
 obtain⟨X,d0,e8,e9,hj⟩:=hi bi c7;have b3: ∀b,b∈q.rd∨b∈q.del→m.app bi H b=H b:=fun b hb=>A2L (hb.elim (b1 b) (O b)) (c9 b hb);have e4:X=q:=by
  rw[y9 (Q4 a1)]at d0;have:=A2u c2 b3;rw[d0]at this;exact Option.some.inj this
 subst e4;have d2:X.okB T (m.used bi U):=by
  unfold Ef.okB at j⊢;cases hn:X.new with
  |none=>trivial
  |some o=>
   rw[hn]at j;cases r:X.at_ with
   |none=>
    rw[r]at j;refine j.imp (fun h hU=>?_) id;rcases used_inv hU with hU|⟨e6,hU⟩
    ·exact h hU
    ·exact c8 e6 (by rw[hn];simp) hU.symm
   |some y=>rw[r]at j;exact j
 have:=hj T d2;rw[A1t a2,B5k (fun b hb e7=>O b e7 hb) c8 (fun hn hb=>c9 bi (.inr hb) hn rfl) (fun hn hb=>b2 T (.inr hb) hn rfl),B4H]at this;exact this
abbrev O5(ops:Array Oper):List (Option Nat):=ops.toList.map (·.dst)
theorem B21(ops:Array Oper)(j:Nat):H7 (O5 ops) j=(ops[j]?).bind (·.dst):=by
 unfold H7;rw[D1e];cases h:ops[j]? with
 |none=>simp[h]
 |some o=>simp[h]
theorem A99{ops:Array Oper}{F:FEnv}{o:Oper}{dst:Option Tmp}{d:D}(h: ∀t,dst=some t→t∉o.looksAt ops):A2i (O5 ops) (F.put dst d) o.guard=A2i (O5 ops) F o.guard:=by
 cases p:o.guard with
 |none=>rfl
 |some q=>
  obtain⟨j,m⟩:=q;unfold A2i;simp only[];rw[B21];cases hs:(ops[j]?).bind (·.dst)with
  |none=>rfl
  |some s=>
   simp only[];cases dst with
   |none=>rfl
   |some t=>
    have i:t≠s:=fun e=>h t rfl (by subst e;simp[Oper.looksAt,p,hs]);simp only[FEnv.put,if_neg i]
theorem B4I{ops:Array Oper}{j oj:Oper}{z G:CR}{K:Kf}{F:FEnv}{H:Heap}{U:Nat→Prop}(p:j.apart ops oj=true)(m:A0v P j.op oj.op=true)(hB:A4M Bi Bj)(O:Dom H U)
  (h:A0R P (O5 ops) z Bi j (A0R P (O5 ops) G Bj oj K) F H U):A0R P (O5 ops) G Bj oj (A0R P (O5 ops) z Bi j K) F H U:=by
 obtain⟨a1,a2,a3⟩:=Oper.apart_spec p;have q: ∀v,A2i (O5 ops) (F.put j.dst v) oj.guard=A2i (O5 ops) F oj.guard:=fun v=>A99 a1;have A: ∀v,A2i (O5 ops) (F.put oj.dst v) j.guard=A2i (O5 ops) F j.guard:=fun v=>A99 a3;rcases h with⟨hr,h⟩|⟨hr,h⟩
 ·
  cases u:A2i (O5 ops) F oj.guard with
  |none=>
   exfalso;obtain⟨e,_,_,_,h5⟩:=h;obtain⟨x,hx,_⟩:=O.fin [];obtain⟨b,hb⟩: ∃b,e.okB b U:=by
    unfold Ef.okB;cases e.new with
    |none=>exact⟨x,trivial⟩
    |some o=>
     cases e.at_ with
     |none=>exact⟨x,.inl hx⟩
     |some y=>exact⟨y,rfl⟩
   rcases h5 b hb with⟨i,_⟩|⟨i,_⟩<;>rw[q,u]at i<;>cases i
  |some r=>
   cases r with
   |true=>
    have I:A0Q P z Bi j (A0Q P G Bj oj K) F H U:=A1J (fun v H U hk=>by
     rcases hk with⟨_,hk⟩|⟨i,_⟩
     ·exact hk
     ·rw[q,u]at i;cases i) h
    exact .inl ⟨u,A1J (fun v H U hk=>.inl ⟨by rw[A];exact hr,hk⟩) (B1r p m hB O I)⟩
   |false=>
    have I:A0Q P z Bi j (fun F H U=>K (F.put oj.dst (.tuple [])) H U) F H U:=A1J (fun v H U hk=>by
     rcases hk with⟨i,_⟩|⟨_,hk⟩
     ·rw[q,u]at i;cases i
     ·exact hk) h
    refine .inr ⟨u,.inl ⟨by rw[A];exact hr,?_⟩⟩;obtain⟨e,J,M,h5,i⟩:=I;exact⟨e,by rw[y9 (Q4 a3)];exact J,M,by rw[q8 (Q4 a3)];exact h5,fun b hb=>by rw[←A1t a2];exact i b hb⟩
 ·
  rcases h with⟨i,h⟩|⟨i,h⟩
  ·rw[q]at i;refine .inl ⟨i,?_⟩;obtain⟨e,J,M,h5,T⟩:=h;refine⟨e,by rw[←J];exact(y9 (Q4 a1)).symm,M,by rw[←q8 (Q4 (F:=F) (d:=.tuple []) a1)];exact h5,fun b hb=>.inr ⟨by rw[A];exact hr,?_⟩⟩;rw[←A1t a2];exact T b hb
  ·rw[q]at i;exact .inr ⟨i,.inr ⟨by rw[A];exact hr,by rw[←A1t a2];exact h⟩⟩
variable {ops:Array Oper} {md:Region.Mode} {cs:Nat→CR} {bs:Nat→Bl}
def sE(P:Program)(cs:Nat→CR)(bs:Nat→Bl)(ops:Array Oper)(i:Nat)(K:Kf):Kf:=match ops[i]? with
 |none=>K
 |some o=>A0R P (O5 ops) (cs i) (bs i) o K
def B4J(P:Program)(cs:Nat→CR)(bs:Nat→Bl)(md:Region.Mode)(ops:Array Oper)(K:Kf):Nat→Array Bool→Kf
 |0,listed=>fun F H U=>Region.ready md ops listed= []∧K F H U
 |fuel+1,listed=>fun F H U=>(Region.ready md ops listed= []→K F H U)∧∀i∈Region.ready md ops listed,sE P cs bs ops i (B4J P cs bs md ops K fuel (listed.setIfInBounds i true)) F H U
theorem B1s{e:Ef}{H:Heap}{U:Nat→Prop}(h:Dom H U): ∃b,e.okB b U:=by
 obtain⟨x,hx,_⟩:=h.fin [];unfold Ef.okB;cases e.new with
 |none=>exact⟨x,trivial⟩
 |some o=>
  cases e.at_ with
  |none=>exact⟨x,.inl hx⟩
  |some y=>exact⟨y,rfl⟩
theorem B4K{o:Oper}{K:Kf}{F:FEnv}{H:Heap}{U:Nat→Prop}(i:Dom H U)(h:A0Q P c bb o K F H U):A0Q P c bb o (fun F H U=>Dom H U∧K F H U) F H U:=
 let ⟨e,h2,h3,h4,h5⟩:=h;⟨e,h2,h3,h4,fun b hb=>⟨i.app hb,h5 b hb⟩⟩
theorem B0A{i:List (Option Nat)}{o:Oper}{F:FEnv}{H:Heap}{U:Nat→Prop}(j:Dom H U)(h:A0R P i c bb o (fun _ _ _=>False) F H U):False:=by
 rcases h with⟨_,e,_,_,_,h5⟩|⟨_,h⟩
 ·obtain⟨b,hb⟩:=B1s (e:=e) j;exact h5 b hb
 ·exact h
theorem A7X{i:List (Option Nat)}{o:Oper}{K:Kf}{F:FEnv}{H:Heap}{U:Nat→Prop}(j:Dom H U)(h:A0R P i c bb o K F H U):A0R P i c bb o (fun F H U=>Dom H U∧K F H U) F H U:=
 h.imp (fun h=>⟨h.1,B4K j h.2⟩) fun h=>⟨h.1,j,h.2⟩
theorem B1t{K:Kf}{i:Nat}{u:Oper}{W:Nat→Prop}(Y:ops[i]? =some u)(hW:Closed md ops i W):
  ∀(fuel:Nat) (m:Array Bool) (F:FEnv) (H:Heap) (U:Nat→Prop),Dom H U→(∀j,W j→m.getD j false=false)→
   (∀j oj,ops[j]? =some oj→¬W j→m.getD j true=false→(u.apart ops oj=true∧A0v P u.op oj.op=true)∧A4M (bs i) (bs j))→
   i∈Region.ready md ops m→A0R P (O5 ops) (cs i) (bs i) u (B4J P cs bs md ops K fuel (m.setIfInBounds i true)) F H U→B4J P cs bs md ops K (fuel+1) m F H U:=by
 intro fuel
 induction fuel with
 |zero=>
  intro m F H U M _ _ hr h;refine⟨fun O=>(by rw[O]at hr;cases hr),fun j z=>?_⟩;by_cases o:j=i
  ·subst o;unfold sE;simp only[Y];exact h
  ·exfalso;refine B0A M (A1K (fun F H U hk=>?_) h);have:=ready_mono z o;rw[hk.1]at this;cases this
 |succ fuel ih=>
  intro m F H U M A p hr h;refine⟨fun O=>(by rw[O]at hr;cases hr),fun j z=>?_⟩;by_cases o:j=i
  ·subst o;unfold sE;simp only[Y];exact h
  ·obtain⟨r,oj,x,_⟩:=mem_ready.1 z;have G:=hW.not_ready A z o;obtain⟨⟨T,y⟩,V⟩:=p j oj x G r;have I: ∀k,W k→(m.setIfInBounds j true).getD k false=false:=fun k hk=>by
    rw[Q3 (fun e:j=k=>G (by rw[e];exact hk))];exact A k hk
   have q: ∀k ok,ops[k]? =some ok→¬W k→(m.setIfInBounds j true).getD k true=false→(u.apart ops ok=true∧A0v P u.op ok.op=true)∧A4M (bs i) (bs k):=fun k ok hk X hu=>by
    refine p k ok hk X ?_;by_cases J:j=k
    ·subst J;exact r
    ·rw[getD_set_ne true J]at hu;exact hu
   have h1:A0R P (O5 ops) (cs i) (bs i) u (A0R P (O5 ops) (cs j) (bs j) oj (B4J P cs bs md ops K fuel ((m.setIfInBounds i true).setIfInBounds j true))) F H U:=A1K (fun F H U hk=>by
    have:=hk.2 j (ready_mono z o);unfold sE at this;simp only[x]at this;exact this) h
   have h2:=A7X M (B4I T y V M h1);unfold sE;simp only[x];refine A1K (fun F H U hk=>ih (m.setIfInBounds j true) F H U hk.1 I q (ready_mono hr (Ne.symm o)) ?_) h2;rw[Array.setIfInBounds_comm _ _ o];exact hk.2
def A7Y(P:Program)(gs:List (Option Nat))(cs:Nat→CR)(bs:Nat→Bl)(K:Kf):Nat→List Oper→Kf
 |_,[]=>K
 |k,o::l=>A0R P gs (cs k) (bs k) o (A7Y P gs cs bs K (k+1) l)
def A5X(P:Program)(ops:Array Oper)(oi oj:Oper):Bool:=oi.apart ops oj&&A0v P oi.op oj.op
def A2N(P:Program)(ops:Array Oper)(oi:Oper):List Oper→List Bool→Bool
 | [],_=>true
 |o::l,b::W=>(b||A5X P ops oi o)&&A2N P ops oi l W
 |_::_,[]=>false
def A5Y(P:Program)(ops:Array Oper):Nat→List Oper→Bool
 |_,[]=>true
 |k,o::l=>(o.after.all fun e=> !Region.binds .any e||e.on<k)&&A2N P ops o l (X8 k l [])&&A5Y P ops (k+1) l
def B22(P:Program)(ops:Array Oper):Bool:=A5Y P ops 0 ops.toList
def B4L:(Nat→Bl)→Nat→List Oper→Prop
 |_,_,[]=>True
 |bs,k,o::l=>(∀i,i<l.length→(X8 k l [])[i]? ≠some true→A4M (bs k) (bs (k+1+i)))∧B4L bs (k+1) l
theorem A2v(bl:List Nat): ∀(l:List Oper) (k:Nat),B4L (fun _=>⟨bl,[],[]⟩) k l
 | [],_=>trivial
 |_::l,k=>⟨fun i _ _=>⟨fun b h _=>⟨h,(by simp)⟩,fun b h _=>⟨h,(by simp)⟩⟩,A2v bl l (k+1)⟩
theorem okRestE_at{m:Oper}: ∀(l:List Oper) (W:List Bool),A2N P ops m l W=true→∀(i:Nat) (o:Oper),l[i]? =some o→W[i]? =some true∨A5X P ops m o=true
 | [],_,_,i,o,h=>by simp at h
 |o'::l,[],h,_,_,_=>by simp[A2N]at h
 |o'::l,b::W,h,0,o,j=>by
  simp[A2N]at h j;subst j;rcases h.1 with h|h
  ·exact .inl (by simp[h])
  ·exact .inr h
 |o'::l,b::W,h,i+1,o,j=>by
  simp[A2N]at h j;simpa using okRestE_at l W h.2 i o j
theorem B0B{K:Kf}: ∀(l:List Oper) (k:Nat) (i:Array Bool),(∀j,l[j]? =ops[k+j]?)→(∀j,i.getD j false=decide (j<k))→(i.size=ops.size)→
  A5Y P ops k l=true→B4L bs k l→∀F H U,Dom H U→A7Y P (O5 ops) cs bs K k l F H U→B4J P cs bs .any ops K l.length i F H U:=by
 intro l
 induction l with
 |nil=>
  intro k i hl z hsz _ _ F H U _ h;refine⟨?_,h⟩;cases hr:Region.ready .any ops i with
  |nil=>rfl
  |cons x xs=>
   exfalso;have hx:x∈Region.ready .any ops i:=by rw[hr];simp
   obtain⟨X,o,ho,_⟩:=mem_ready.1 hx;have:=z x;rw[F8 X]at this;have hk:k≤x:=by simpa using this
   have:=hl (x-k);rw[show k+(x-k)=x from by omega,ho]at this;simp at this
 |cons o l ih=>
  intro k i hl z hsz Y a0 F H U hD h;obtain⟨b2,b3⟩:=a0;have X:ops[k]? =some o:=by simpa using(hl 0).symm
  have b9:k<ops.size:=(D1g.1 X).1;simp only[A5Y,D1U]at Y;obtain⟨⟨he,hr⟩,A⟩:=Y;have G: ∀j,l[j]? =ops[k+1+j]? :=fun j=>by have:=hl (j+1);simpa [Nat.add_assoc,Nat.add_comm 1 j]using this
  have r:k∈Region.ready .any ops i:=by
   rw[mem_ready];refine⟨?_,o,X,fun e I hb=>?_⟩
   ·have:=z k;simp at this;have J:k<i.size:=by omega
    simp[J]at this⊢;exact this
   ·rw[z];rw[Array.all_eq_true_iff_forall_mem]at he;have:=he e I;simp[hb]at this;simpa using this
  have b4: ∀j,(i.setIfInBounds k true).getD j false=decide (j<k+1):=fun j=>by
   by_cases M:k=j
   ·subst M;have J:k<i.size:=by omega
    simp[J]
   ·rw[getD_set_ne false M,z];apply D1u.2;omega
  have a6:(i.setIfInBounds k true).size=ops.size:=by simpa using hsz
  let W:Nat→Prop:=fun j=>j=k∨(k<j∧(X8 k l [])[j-(k+1)]? =some true)
  have b6:Closed .any ops k W:=by
   refine⟨.inl rfl,fun j oj O a9 q=>?_⟩;rcases O with O|⟨b7,O⟩
   ·exact absurd O a9
   ·have u:l[j-(k+1)]? =some oj:=by rw[G];rw[show k+1+(j-(k+1))=j from by omega];exact q
    have T:=A3Q k l [] (j-(k+1)) oj u;simp only[D1O,Nat.zero_add]at T;rw[O]at T;have hw:m0 oj k ((X8 k l []).take (j-(k+1)))=true:=by simpa using T.symm
    unfold m0 at hw;obtain⟨e,I,m⟩:=Array.any_eq_true'.1 hw;simp only[D1U,D2e,beq_iff_eq,D1d]at m;refine⟨e,I,m.1,?_⟩;rcases m.2 with h1|⟨h1,p⟩
    ·exact .inl h1
    ·refine .inr ⟨h1,?_⟩;rw[List.getD_eq_getElem?_getD]at p;cases ht:((X8 k l []).take (j-(k+1)))[e.on-(k+1)]? with
     |none=>rw[ht]at p;simp at p
     |some b=>
      rw[ht]at p;simp at p;subst p;rw[List.getElem?_take]at ht;split at ht
      ·exact ht
      ·cases ht
  have b8: ∀j,W j→i.getD j false=false:=fun j O=>by
   rw[z];rcases O with rfl|⟨b7,_⟩<;>simp;omega
  have V: ∀j oj,ops[j]? =some oj→¬W j→i.getD j true=false→A5X P ops o oj=true∧A4M (bs k) (bs j):=fun j oj q y hu=>by
   have h1:=z j;rw[F8 hu]at h1;have M:k≤j:=by simpa using h1
   have a9:j≠k:=fun e=>y (.inl e);have u:l[j-(k+1)]? =some oj:=by rw[G];rw[show k+1+(j-(k+1))=j from by omega];exact q
   have b0:(X8 k l [])[j-(k+1)]? ≠some true:=fun p=>y (.inr ⟨by omega,p⟩);have b1:=b2 (j-(k+1)) (D1R.1 u).1 b0;rw[show k+1+(j-(k+1))=j from by omega]at b1;rcases okRestE_at l _ hr _ _ u with p|p
   ·exact absurd p b0
   ·exact⟨p,b1⟩
  refine B1t X b6 l.length i F H U hD b8 (fun j oj q y hu=>?_) r (A1K (fun F' H' U' h'=>ih (k+1) _ G b4 a6 A b3 F' H' U' h'.1 h'.2) (A7X hD h));obtain⟨h1,p⟩:=V j oj q y hu;exact⟨by simpa [A5X]using h1,p⟩
def Ef.okH(e:Ef)(b:Nat)(H:Heap):Prop:=match e.new,e.at_ with
 |none,_=>True
 |some _,some c=>b=c
 |some _,none=>H b=none∨b∈e.del
theorem C2x{e:Ef}{b:Nat}{H:Heap}{U:Nat→Prop}(j:Dom H U)(h:e.okB b U):e.okH b H:=by
 unfold Ef.okB at h;unfold Ef.okH;cases hn:e.new with
 |none=>trivial
 |some o=>
  rw[hn]at h;cases i:e.at_ with
  |none=>
   rw[i]at h;refine h.imp (fun h=>?_) id;cases hb:H b with
   |none=>rfl
   |some x=>exact absurd (j.dom b (by rw[hb];simp)) h
  |some y=>rw[i]at h;exact h
theorem G1(H:Heap):H.minus []=H:=by funext k;simp[Heap.minus]
theorem B4M{b k:Nat}:(H.del b) k=none↔k=b∨H k=none:=by unfold Heap.del;by_cases h:k=b<;>simp[h]
theorem A0w{t:TypeId}{a x:D}{H':Heap}{b:Nat}(h:Y3 P t a x H=some H')(p:rdB a= [b]): ∃o,H' b=some o∧o.rw=true∧H'=H.set b o∧B1p (H b)=true:=by
 unfold Y3 at h;split at h
 ·split at h
  ·rename_i m off;obtain rfl:m=b:=by simpa [rdB]using p
   split at h
   ·rename_i cs Z j;split at h
    ·cases h;exact⟨_,by simp[Heap.set],rfl,rfl,by rw[j];rfl⟩
    ·cases h
   ·cases h
  ·rename_i m sz i off;obtain rfl:m=b:=by simpa [rdB]using p
   split at h
   ·rename_i sz' es j;split at h
    ·cases h;exact⟨_,by simp[Heap.set],rfl,rfl,by rw[j];rfl⟩
    ·cases h
   ·cases h
  ·cases h
 ·cases h
theorem Z4(H:Heap)(b:Nat)(o:Obj):(H.minus [b]).set b o=H.set b o:=by
 funext k;unfold Heap.set Heap.minus
 by_cases h:k=b<;>simp[h]
theorem B9B{op:Op}{e:Ef}(h:o9 P c bl ev H op=some e)(b0:A58 bb H e)(j:O4 P c bl ev H op):
  C9 P ev H (fun d H'=>∃b,e.okH b H∧d=e.val b∧(e.app b H).Le H') op:=by
 have one: ∀{K:D→Heap→Prop} {d:D} {rd:List Nat},e=val d rd→(∃b,e.okH b H∧d=e.val b∧(e.app b H).Le H):=by
  intro K d rd he;subst he;exact⟨0,trivial,rfl,by show (H.minus []).Le H;rw[G1];exact D2i H⟩
 by_cases hc:I4 P op= .pure
 ·rw[U2 hc]at h;obtain⟨d,hd,rfl⟩:=D1Q.1 h;have fin: ∃d',L1 P ev op=some d'∧∃b,(val d []).okH b H∧d'=(val d []).val b∧((val d []).app b H).Le H:=⟨d,hd,0,trivial,rfl,by show (H.minus []).Le H;rw[G1];exact D2i H⟩
  cases op
  case call cc=>
   obtain⟨callee,args,O⟩:=cc;cases callee with
   |value f=>simp[I4]at hc
   |invoke r m=>simp[I4]at hc
   |builtin b=>
    cases b<;>try(simp[I4]at hc;done)
    all_goals (simp only[C9,hc];exact fin)
  case convert s t x=>simp only[C9,hc];exact fin
  case load t x=>simp[I4]at hc
  case store t a x=>simp[I4]at hc
  case alloc t=>simp[I4]at hc
  case box t x=>simp[I4]at hc
  case buildSlice t n p=>simp[I4]at hc
  case makeSlice t a b=>simp[I4]at hc
  case range t x=>simp[I4]at hc
  case next x i=>simp[I4]at hc
  case makeMap t r=>simp[I4]at hc
  case lookup t m k ok=>simp[I4]at hc
  case mapUpdate t m k v=>simp[I4]at hc
  all_goals first
   |(simp only[C9,hc];exact fin)
   |(simp[I4]at hc;done)
 ·rw[I5 hc]at h;cases op
  case load t x=>
   simp only[I0,D1Q]at h;obtain⟨d,hd,rfl⟩:=h;exact⟨d,hd,0,trivial,rfl,by show (H.minus []).Le H;rw[G1];exact D2i H⟩
  case lookup t m k ok=>
   simp only[I0,D1Q]at h;obtain⟨d,hd,rfl⟩:=h;exact⟨d,hd,0,trivial,rfl,by show (H.minus []).Le H;rw[G1];exact D2i H⟩
  case alloc t=>
   simp only[I0,D1Q]at h;obtain⟨z,T,rfl⟩:=h;exact⟨z,T,fun b hb=>⟨b,.inl hb,rfl,by show ((H.minus []).set b _).Le _;rw[G1];exact D2i _⟩⟩
  case box t x=>
   simp only[I0]at h;split at h
   ·rename_i h1;cases h;exact⟨h1,fun b hb=>⟨b,.inl hb,rfl,by show ((H.minus []).set b _).Le _;rw[G1];exact D2i _⟩⟩
   ·cases h
  case makeSlice t l c=>
   simp only[I0]at h;obtain⟨e',sz,y,z,k,n,k',m,h1,G,U,h4,h5,h6,h7,h8,h9,V,rfl⟩:=A5W h;exact⟨e',sz,y,z,k,n,k',m,h1,G,U,h4,h5,h6,h7,h8,h9,V,fun b hb=>⟨b,.inl hb,rfl,by show ((H.minus []).set b _).Le _;rw[G1];exact D2i _⟩⟩
  case buildSlice t n parts=>
   simp only[I0,bsE]at h;obtain⟨⟨e',sz,y⟩,W,h⟩:=D1T.1 h;split at h
   ·rename_i h1;obtain⟨z,T,h⟩:=D1T.1 h;split at h
    ·rename_i G;obtain⟨es,X,rfl⟩:=D1Q.1 h;exact⟨e',sz,y,z,es,W,h1.1,h1.2,T,G,X,fun b hb=>⟨b,.inl hb,rfl,by show ((H.minus []).set b _).Le _;rw[G1];exact D2i _⟩⟩
    ·cases h
   ·cases h
  case store t a x=>
   simp only[I0,n8]at h;obtain⟨H1,hs,h⟩:=D1T.1 h;refine⟨H1,hs,?_⟩;cases Y:ev a with
   |box b off=>
    rw[Y]at h hs;simp only at h;obtain⟨o,ho,rfl⟩:=D1Q.1 h;obtain⟨o',A,_,I,_⟩:=A0w hs (b:=b) rfl;rw[ho]at A;cases A;exact⟨b,rfl,rfl,by show ((H.minus [b]).set b _).Le _;rw[Z4,I];exact D2i _⟩
   |el b sz i off=>
    rw[Y]at h hs;simp only at h;obtain⟨o,ho,rfl⟩:=D1Q.1 h;obtain⟨o',A,_,I,_⟩:=A0w hs (b:=b) rfl;rw[ho]at A;cases A;exact⟨b,rfl,rfl,by show ((H.minus [b]).set b _).Le _;rw[Z4,I];exact D2i _⟩
   |_=>rw[Y]at h;simp at h
  case call cc=>
   obtain⟨callee,args,O⟩:=cc;cases callee with
   |value f=>
    simp only[I0]at h;simp only[O4]at j;simp only[C9];split at h
    ·rename_i g first cap hf
     cases h;rw[hf]at j⊢;simp only at j⊢;refine(j H (fun k cs hk=>hk) (fun b hb=>rfl)).mono fun d H' hd=>?_;unfold CR.post at hd;unfold Ef.okH Ef.app;cases hn:c.new with
     |none=>rw[hn]at hd;exact⟨0,by simp only[hn],by simp only[CR.f,hn];exact hd.1,by simp only[hn];exact hd.2⟩
     |some o=>
      rw[hn]at hd;obtain⟨b,h1,G,U⟩:=hd;exact⟨b,by simp only[hn];exact h1,by simp only[CR.f,hn];exact G,by simp only[hn];exact U⟩
    ·cases h
   |invoke r m=>simp[I0]at h
   |builtin b=>
    cases b
    case append=>
     unfold I0 at h;simp only at h;simp only[C9];split at h
     ·rename_i t t' s x h1 G;simp only[h1,G];unfold B1q at h;obtain⟨⟨e',sz,y⟩,W,h⟩:=D1T.1 h;split at h
      ·rename_i q;simp only at q h;obtain⟨xs,a0,h⟩:=D1T.1 h;refine⟨e',sz,y,W,q.1,q.2.1,q.2.2,xs,a0,?_⟩;split at h
       ·rename_i J;split at h
        ·rename_i hx;cases h;rw[J];refine⟨hx.1,hx.2.1,fun he=>by rw[he]at hx;simp at hx,fun _ b hb=>⟨b,.inl hb,rfl,?_⟩⟩;intro k o hk;simp only[Ef.app,Heap.set]at hk⊢;split at hk
         ·rename_i u;rw[if_pos u];exact hk
         ·rename_i u;rw[if_neg u];exact A53 _ _ k o hk
        ·cases h
       ·rename_i b sz' lo n J;split at h
        ·rename_i a9 es hb;split at h
         ·rename_i hx;obtain⟨x1,x2,x3,x4,x5,x6⟩:=hx;subst x1;subst x2;subst x3;cases h;rw[J];refine⟨rfl,.inl ⟨rfl,es,hb,x4,x5,x6,fun b' a6=>⟨b',?_,rfl,?_⟩⟩⟩
          ·show H b'=none∨b'∈b::_;rcases B4M.1 a6 with h|h
           ·exact .inr (by rw[h];exact D1S ..)
           ·exact .inl h
          ·intro k o hk;simp only[Ef.app,Heap.set]at hk⊢;split at hk
           ·rename_i u;rw[if_pos u];exact hk
           ·rename_i u;rw[if_neg u];unfold Heap.minus at hk;split at hk
            ·cases hk
            ·rename_i M;simp only[D1j,not_or]at M;unfold Heap.del;rw[if_neg M.1];exact hk
         ·cases h
        ·cases h
       ·cases h
      ·cases h
     ·cases h
    all_goals cases h
  case makeMap t r=>
   cases r with
   |none=>
    simp only[I0,D1t]at h;subst h;exact fun b hb=>⟨b,.inl hb,rfl,by show ((H.minus []).set b _).Le _;rw[G1];exact D2i _⟩
   |some r=>simp[I0]at h
  all_goals cases h
structure StF(N:Nat)(w0:World)(H0:Heap)(F:FEnv)(H:Heap)(U:Nat→Prop)(a:Act)(w:World):Prop where
 size:a.tmps.size=N
 defers:a.defers= []
 env: ∀i,R w H (F i) (a.eval (.tmp i))
 sat:Sat H w
 ext:Ext H0 w0 w
 frm:From w0 H0 H
 dom:Dom H U
 lt: ∀b,U b→b<w.heap.size
theorem StF.evR{N:Nat}{w0:World}{H0:Heap}{F:FEnv}{U:Nat→Prop}{a:Act}{w:World}(h:StF N w0 H0 F H U a w)(x:Operand):R w H (F.ev x) (a.eval x):=by
 cases x with
 |tmp t=>exact h.env t
 |const v=>exact A2J w H v
 |global g=>exact .glob g
 |func f=>exact .fn _ _ _ _ _ rfl rfl (by simp) (by simp)
theorem B1u{e:Ef}{b:Nat}{o:Obj}{H:Heap}(h:e.new=some o):e.app b H b=some o:=by unfold Ef.app;rw[h];simp[Heap.set]
theorem B0C{N:Nat}{w0:World}{H0:Heap}{o:Oper}{K:Kf}{F:FEnv}{U:Nat→Prop}{a:Act}{w:World}(hd: ∀t,o.dst=some t→t<N)(h:A0Q P c bb o K F H U)(hst:StF N w0 H0 F H U a w):
  opSem P none o a w fun v w'=>∃T H' V,StF N w0 H0 T H' V (a.put o.dst v) w'∧K T H' V:=by
 obtain⟨e,he,u,m,hk⟩:=h;refine(N5 (o:=o) hst.sat hst.evR (B9B he u m)).mono fun v w' hp=>?_;obtain⟨d,H',hR,W,J,X,b,hb,rfl,j⟩:=hp;have x: ∀ob,e.new=some ob→H b=none→w.heap.size≤b:=fun ob z p=>by
  rcases Nat.lt_or_ge b w.heap.size with M|O
  ·have h1:=X b M (G7 p);have h2:=j b ob (B1u z);rw[I1 h2,u.new ob z]at h1;cases h1
  ·exact O
 have A:e.okB b U:=by
  unfold Ef.okH at hb;unfold Ef.okB;cases hn:e.new with
  |none=>trivial
  |some ob=>
   rw[hn]at hb;cases Y:e.at_ with
   |none=>
    rw[Y]at hb;exact hb.imp (fun p hU=>by have:=hst.lt b hU;have:=x ob hn p;omega) id
   |some y=>rw[Y]at hb;exact hb
 refine⟨F.put o.dst (e.val b),e.app b H,e.used b U,?_,hk b A⟩;have q:From w H (e.app b H):=X.less j;refine⟨?_,?_,fun i=>?_,W.less j,hst.ext.trans hst.frm J,hst.frm.trans hst.ext.size q,hst.dom.app A,fun k hk=>?_⟩
 ·cases o.dst<;>simp[Act.put,hst.size]
 ·cases o.dst<;>exact hst.defers
 ·cases G:o.dst with
  |none=>exact(hst.env i).mono J q
  |some t=>
   have ht:=hd t G;simp only[FEnv.put];by_cases r:t=i
   ·subst r;rw[if_pos rfl];have:(a.put (some t) v).eval (.tmp t)=v:=by
     have h':t<a.tmps.size:=by rw[hst.size];exact ht
     simp[Act.eval,Act.put,h']
    rw[this];exact hR.less j
   ·rw[if_neg r];have:(a.put (some t) v).eval (.tmp i)=a.eval (.tmp i):=by
     simp[Act.eval,Act.put,D1v r]
    rw[this];exact(hst.env i).mono J q
 ·rcases used_inv hk with hk|⟨hn,rfl⟩
  ·exact D2D (hst.lt k hk) J.size
  ·cases I:e.new with
   |none=>exact absurd I hn
   |some ob=>exact W.lt (j k ob (B1u I))
theorem A4x{N:Nat}{w0:World}{H0:Heap}{F:FEnv}{H:Heap}{U:Nat→Prop}{a:Act}{w:World}{o:Oper}{r:Bool}(hst:StF N w0 H0 F H U a w)(h:A2i (O5 ops) F o.guard=some r):Region.wanted o (yielded ops a.tmps)=r:=by
 cases i:o.guard with
 |none=>rw[i]at h;cases h;simp[Region.wanted,i]
 |some x=>
  obtain⟨j,q⟩:=x;rw[i]at h;unfold A2i at h;simp only[]at h;rw[B21]at h;cases hs:(ops[j]?).bind (·.dst)with
  |none=>
   rw[hs]at h;cases h;have m:yielded ops a.tmps j=none:=by unfold yielded;rw[hs];rfl
   simp[Region.wanted,i,m]
  |some s=>
   rw[hs]at h;simp only[]at h;have hv:=hst.env s;split at h
   ·rename_i p;cases h;rw[p]at hv;obtain⟨vs,hv,_⟩:=hv.tuple_inv;have m:yielded ops a.tmps j=none:=by
     unfold yielded;rw[hs];simp only[D1l];simp only[Act.eval]at hv;cases ht:a.tmps[s]? with
     |none=>rfl
     |some u=>
      simp[ht]at hv;subst hv;rfl
    simp[Region.wanted,i,m]
   ·rename_i b p;cases h;rw[p]at hv;have hv:=hv.bool_inv;have m:yielded ops a.tmps j=some b:=by
     unfold yielded;rw[hs];simp only[D1l];simp only[Act.eval]at hv;cases ht:a.tmps[s]? with
     |none=>
      simp[ht]at hv;cases hv
     |some u=>
      simp[ht]at hv;subst hv;rfl
    simp[Region.wanted,i,m]
   ·cases h
theorem StF.skip{N:Nat}{w0:World}{H0:Heap}{F:FEnv}{H:Heap}{U:Nat→Prop}{a:Act}{w:World}(hst:StF N w0 H0 F H U a w){dst:Option Nat}(hd: ∀t,dst=some t→t<N):StF N w0 H0 (F.put dst (.tuple [])) H U (a.put dst undef) w:=by
 refine⟨?_,?_,fun i=>?_,hst.sat,hst.ext,hst.frm,hst.dom,hst.lt⟩
 ·cases dst<;>simp[Act.put,hst.size]
 ·cases dst<;>exact hst.defers
 ·cases dst with
  |none=>exact hst.env i
  |some t=>
   have ht:=hd t rfl;simp only[FEnv.put];by_cases h:t=i
   ·subst h;rw[if_pos rfl];have:(a.put (some t) undef).eval (.tmp t)=undef:=by
     have j:t<a.tmps.size:=by rw[hst.size];exact ht
     simp[Act.eval,Act.put,j]
    rw[this];exact .tuple [] #[] rfl (by simp)
   ·rw[if_neg h];have:(a.put (some t) undef).eval (.tmp i)=a.eval (.tmp i):=by
     simp[Act.eval,Act.put,D1v h]
    rw[this];exact hst.env i
theorem A1L{N:Nat}{w0:World}{H0:Heap}{K:Kf}{Q:Exit→Act→World→Prop}(hd: ∀o∈ops.toList,∀t,o.dst=some t→t<N)
  (p: ∀F H U a w,StF N w0 H0 F H U a w→K F H U→Q .normal a w): ∀(fuel:Nat) (j:Array Bool) (F:FEnv) (H:Heap) (U:Nat→Prop) (a:Act) (w:World),
  B4J P cs bs md ops K fuel j F H U→StF N w0 H0 F H U a w→Go.wpAny P md ops Q fuel j a w
 |0,_,F,H,U,a,w,h,hst=>⟨h.1,p _ _ _ _ _ hst h.2⟩
 |fuel+1,j,F,H,U,a,w,h,hst=>⟨fun r=>p _ _ _ _ _ hst (h.1 r),fun i u=>by
   have h1:=h.2 i u;unfold sE at h1;unfold Go.wpOp;split
   ·rename_i hn;simp only[hn]at h1;exact A1L hd p fuel _ _ _ _ _ _ h1 hst
   ·rename_i o ho;simp only[ho]at h1;have m:o∈ops.toList:=by rw[D1w];exact Array.mem_of_getElem? ho
    rcases h1 with⟨hr,h1⟩|⟨hr,h1⟩
    ·rw[if_pos (A4x hst hr)];exact .inl (opSem.wp ((B0C (hd o m) h1 hst).mono fun v w' hv=>by
      obtain⟨x,H',y,q,hk⟩:=hv;exact A1L hd p fuel _ _ _ _ _ _ hk q))
    ·rw[if_neg (by rw[A4x hst hr];exact Bool.false_ne_true)];exact A1L hd p fuel _ _ _ _ _ _ h1 (hst.skip (hd o m))⟩
def wpP(P:Program)(gs:List (Option Nat))(cs:Nat→CR)(bs:Nat→Bl)(K:Env→Heap→Prop):Nat→List Oper→Env→Heap→Prop
 |_,[],E,H=>K E H
 |i,o::l,E,H=>match o.guard with
  |none=>∃e,o9 P (cs i) (bs i).l E.ev H o.op=some e∧A58 (bs i) H e∧O4 P (cs i) (bs i).l E.ev H o.op∧∀b,e.okH b H→wpP P gs cs bs K (i+1) l (E.put o.dst (e.val b)) (e.app b H)
  |some (j,want)=>A1s E (H7 gs j) want
    (fun E=>∃e,o9 P (cs i) (bs i).l E.ev H o.op=some e∧A58 (bs i) H e∧O4 P (cs i) (bs i).l E.ev H o.op∧∀b,e.okH b H→wpP P gs cs bs K (i+1) l (E.put o.dst (e.val b)) (e.app b H))
    (fun E=>wpP P gs cs bs K (i+1) l (E.put o.dst (.tuple [])) H)
theorem A4N{q:List (Option Nat)}{K:Env→Heap→Prop}: ∀(l:List Oper) (i:Nat) (E:Env) (F:FEnv) (H:Heap) (U:Nat→Prop),(∀t,E.get t=F t)→Dom H U→wpP P q cs bs K i l E H→A7Y P q cs bs (fun F H _=>∃E,(∀t,E.get t=F t)∧K E H) i l F H U
 | [],i,E,F,H,U,m,A,h=>⟨E,m,h⟩
 |o::l,i,E,F,H,U,m,A,h=>by
  have put: ∀(E:Env) (d:D),(∀t,E.get t=F t)→∀t,(E.put o.dst d).get t=(F.put o.dst d) t:=fun E d m t=>by
   cases o.dst with
   |none=>exact m t
   |some u=>
    simp only[Env.put,Env.get,FEnv.put];split
    ·rfl
    ·exact m t
  have z: ∀(E:Env),(∀t,E.get t=F t)→F.ev=E.ev:=fun E m=>by
   funext x
   cases x with
   |tmp t=>exact(m t).symm
   |_=>rfl
  have run: ∀(E:Env),(∀t,E.get t=F t)→(∃e,o9 P (cs i) (bs i).l E.ev H o.op=some e∧A58 (bs i) H e∧O4 P (cs i) (bs i).l E.ev H o.op∧∀b,e.okH b H→wpP P q cs bs K (i+1) l (E.put o.dst (e.val b)) (e.app b H))→
    A0Q P (cs i) (bs i) o (A7Y P q cs bs (fun F H _=>∃E,(∀t,E.get t=F t)∧K E H) (i+1) l) F H U:=fun E m h=>by
   obtain⟨e,he,I,r,hk⟩:=h;exact⟨e,by rw[z E m];exact he,I,by rw[z E m];exact r,fun b hb=>A4N l (i+1) (E.put o.dst (e.val b)) _ _ _ (put E _ m) (A.app hb) (hk b (C2x A hb))⟩
  have skip: ∀(E:Env),(∀t,E.get t=F t)→wpP P q cs bs K (i+1) l (E.put o.dst (.tuple [])) H→A7Y P q cs bs (fun F H _=>∃E,(∀t,E.get t=F t)∧K E H) (i+1) l (F.put o.dst (.tuple [])) H U:=fun E m h=>
   A4N l (i+1) (E.put o.dst (.tuple [])) _ _ _ (put E _ m) A h
  have know: ∀(E:Env) (s:Nat) (d:D),(∀t,E.get t=F t)→E.get s=d→∀t,Env.get ((s,d)::E) t=F t:=fun E s d m hs t=>by
   simp only[Env.get];split
   ·rename_i e;subst e;rw[←hs];exact m s
   ·exact m t
  unfold wpP at h;unfold A7Y;cases y:o.guard with
  |none=>
   rw[y]at h;exact .inl ⟨by rw[y];rfl,run E m h⟩
  |some O=>
   obtain⟨j,p⟩:=O;rw[y]at h;simp only[]at h;unfold A1s at h;cases hs:H7 q j with
   |none=>
    rw[hs]at h;exact .inr ⟨by rw[y];simp only[A2i,hs],skip E m h⟩
   |some s=>
    rw[hs]at h;rcases h with⟨T,h⟩|⟨b,hb,h1,V⟩
    ·have G:F s= .tuple []:=by rw[←m];exact T
     exact .inr ⟨by rw[y];simp only[A2i,hs,G],skip E m h⟩
    ·have G:F s= .bool b:=by rw[←m];exact hb
     by_cases J:b=p
     ·subst J;exact .inl ⟨by rw[y];simp only[A2i,hs,G,beq_self_eq_true],run _ (know E s _ m hb) (h1 rfl)⟩
     ·have M:b= !p:=by cases b<;>cases p<;>simp_all
      subst M;exact .inr ⟨by rw[y];simp only[A2i,hs,G];cases p<;>rfl,skip _ (know E s _ m hb) (V rfl)⟩
theorem C2y(n:Nat)(l:List Nat): ∃b,¬(b<n)∧b∉l:=by
 refine⟨n+l.sum+1,by omega,fun h=>?_⟩;have: ∀(l:List Nat) (x:Nat),x∈l→x≤l.sum:=by
  intro l
  induction l with
  |nil=>intro x hx;cases hx
  |cons y l i=>
   intro x hx;rcases D1j.1 hx with rfl|hx
   ·simp
   ·have:=i x hx;simp;omega
 have:=this l _ h;omega
theorem A4O{w:World}(hs:Sat H w):Dom H (fun b=>b<w.heap.size):=⟨fun b hb=>by
 cases h:H b with
 |none=>exact absurd h hb
 |some o=>exact hs.lt h,C2y _⟩
theorem B5m{N:Nat}{w0:World}{H0:Heap}{id:Nat}{K:Env→Heap→Prop}{Q:Exit→Act→World→Prop}{a:Act}{w:World}{E:Env}(hm:P.follows .mixedOrders=true)(p:B22 P ops=true)
  (hd: ∀o∈ops.toList,∀t,o.dst=some t→t<N)
  (u: ∀E H a w,a.tmps.size=N→a.defers= []→(∀i,R w H (E.get i) (a.eval (.tmp i)))→Sat H w→Ext H0 w0 w→From w0 H0 H→K E H→Q .normal a w)
  (h1:a.tmps.size=N) (x:a.defers= []) (y: ∀i,R w H (E.get i) (a.eval (.tmp i))) (z:Sat H w) (h5:Ext H0 w0 w) (r:From w0 H0 H)
  (q:B4L bs 0 ops.toList) (h:wpP P (O5 ops) cs bs K 0 ops.toList E H):(Code.region id ops true).wp P Q a w:=by
 have he:Ext H w {w with drawn:=w.drawn+1}:=Ext.drewN H w 1;have m:=z.same (w':={w with drawn:=w.drawn+1}) rfl he;refine wp_region_any hm (A1L (P:=P) (cs:=cs) (bs:=bs) (md:=.any) (ops:=ops) (K:=fun F H _=>∃E,(∀t,E.get t=F t)∧K E H) hd (fun F H U a w hst hk=>?_) ops.size _ _ _ _ a {w with drawn:=w.drawn+1} ?_
  (⟨h1,x,fun i=>(y i).mono he (D2o _ _),m,h5.trans r he,r,A4O m,fun b hb=>hb⟩:StF N w0 H0 E.get H (fun b=>b<({w with drawn:=w.drawn+1}:World).heap.size) a {w with drawn:=w.drawn+1}))
 ·obtain⟨E,A,hk⟩:=hk;exact u E H a w hst.size hst.defers (fun i=>by rw[A];exact hst.env i) hst.sat hst.ext hst.frm hk
 ·have:=B0B (P:=P) (cs:=cs) (bs:=bs) (ops:=ops) ops.toList 0 (Array.replicate ops.size false) (by simp) (by intro j;simp[Array.getElem?_replicate];split<;>rfl) (by simp) p q E.get H _ (A4O m)
   (A4N ops.toList 0 E E.get H _ (fun _=>rfl) (A4O m) h)
  simpa using this
end
section
variable {P:Program} {H H':Heap} {ev ev':Operand→D} {bl:List Nat}
theorem A0x{op:Op}{K:D→Heap→Prop}(hc:I4 P op= .pure):C9 P ev H K op= ∃d,L1 P ev op=some d∧K d H:=by
 cases op
 case convert s t x=>simp only[C9,hc]
 case call cc=>
  obtain⟨callee,args,h⟩:=cc;cases callee with
  |value f=>simp[I4]at hc
  |invoke r m=>simp[I4]at hc
  |builtin b=>cases b<;>first|(simp only[C9,hc];done)|(simp[I4]at hc;done)
 all_goals first
  |rfl
  |(simp[I4]at hc;done)
  |(simp only[C9,hc];done)
theorem B1v{op:Op}{K:D→Heap→Prop}(h: ∀x∈op.operands.toList,ev x=ev' x):C9 P ev H K op=C9 P ev' H K op:=by
 by_cases hc:I4 P op= .pure
 ·rw[A0x hc,A0x hc,A1r hc h]
 ·cases op
  case load t x=>simp only[C9,h x (by simp[Op.operands])]
  case store t a x=>simp only[C9,h a (by simp[Op.operands]),h x (by simp[Op.operands])]
  case box t x=>simp only[C9,h x (by simp[Op.operands])]
  case lookup t m k ok=>simp only[C9,h m (by simp[Op.operands]),h k (by simp[Op.operands])]
  case mapUpdate t m k x=>simp only[C9,h m (by simp[Op.operands]),h k (by simp[Op.operands]),h x (by simp[Op.operands])]
  case buildSlice t n parts=>simp only[C9,A59 (ev:=ev) (ev':=ev') (l:=parts.toList) (fun x hx=>h x (by simpa [Op.operands]using hx))]
  case makeSlice t l c=>simp only[C9,h l (by simp[Op.operands]),h c (by simp[Op.operands])]
  case range t x=>simp only[C9,h x (by simp[Op.operands])]
  case next x b=>simp only[C9,h x (by simp[Op.operands])]
  case entry x=>simp only[C9,h x (by simp[Op.operands])]
  case convert s t x=>
   have hx:=h x (by simp[Op.operands]);have e1:A3J P ev H K s t x=A3J P ev' H K s t x:=by unfold A3J;rw[hx]
   simp only[C9];exact e1
  case call cc=>
   obtain⟨callee,args,o⟩:=cc;cases callee with
   |value f=>
    have p:=h f (by simp[Op.operands,Call.operands]);have q:=A2t (ev:=ev) (ev':=ev') (l:=args.toList) (fun x hx=>h x (by simp[Op.operands,Call.operands];exact .inr (by simpa using hx)));simp only[C9,p,q]
   |invoke r m=>simp only[C9]
   |builtin b=>
    cases b
    case append=>
     unfold C9;simp only;split
     ·rename_i t u s x h1 j;have e1:=h s (by simp[Op.operands,Call.operands,←D1w,j]);have e2:=h x (by simp[Op.operands,Call.operands,←D1w,j]);unfold A1F;rw[e1,e2]
     ·rfl
    case len=>
     unfold C9;simp only;split
     ·rename_i x j;rw[h x (by simp[Op.operands,Call.operands,←D1w,j])]
     ·rfl
    all_goals
     unfold C9;simp only
     try(split<;>first|rfl|(rename_i i;exact absurd i hc))
  case makeMap t r=>cases r<;>first|rfl|(unfold C9;simp only;try(split<;>first|rfl|(rename_i i;exact absurd i hc)))
  all_goals first
   |rfl
   |(unfold C9;simp only;try(split<;>first|rfl|(rename_i i;exact absurd i hc)))
theorem A0y{op:Op}{K T:D→Heap→Prop}(j: ∀d H,K d H→T d H)(h:C9 P ev H K op):C9 P ev H T op:=by
 by_cases hc:I4 P op= .pure
 ·rw[A0x hc]at h⊢;obtain⟨d,h1,o⟩:=h;exact⟨d,h1,j _ _ o⟩
 ·cases op
  case load t x=>obtain⟨d,h1,o⟩:=h;exact⟨d,h1,j _ _ o⟩
  case store t a x=>obtain⟨d,h1,o⟩:=h;exact⟨d,h1,j _ _ o⟩
  case box t x=>exact⟨h.1,fun b hb=>j _ _ (h.2 b hb)⟩
  case alloc t=>obtain⟨z,h1,o⟩:=h;exact⟨z,h1,fun b hb=>j _ _ (o b hb)⟩
  case lookup t m k ok=>obtain⟨d,h1,o⟩:=h;exact⟨d,h1,j _ _ o⟩
  case mapUpdate t m k x=>obtain⟨d,h1,o⟩:=h;exact⟨d,h1,j _ _ o⟩
  case buildSlice t n parts=>obtain⟨e,sz,u,z,es,h1,o,y,A,h5,q,U⟩:=h;exact⟨e,sz,u,z,es,h1,o,y,A,h5,q,fun b hb=>j _ _ (U b hb)⟩
  case makeSlice t l c=>obtain⟨e,sz,u,z,k,n,k',m,h1,o,y,A,h5,q,U,h8,h9,V,W⟩:=h;exact⟨e,sz,u,z,k,n,k',m,h1,o,y,A,h5,q,U,h8,h9,V,fun b hb=>j _ _ (W b hb)⟩
  case range t x=>
   unfold C9 at h⊢;simp only at h⊢;split at h
   ·exact⟨h.1,fun b hb=>j _ _ (h.2 b hb)⟩
   ·exact⟨h.1,fun b hb=>j _ _ (h.2 b hb)⟩
   ·exact h.elim
  case next x b=>
   unfold C9 at h⊢;simp only at h⊢;split at h
   ·split at h
    ·rename_i h1 o _ _ _ _;exact⟨fun g=>j _ _ (h.1 g),fun g=>j _ _ (h.2 g)⟩
    ·exact h.elim
   ·split at h
    ·exact⟨fun i p M G=>j _ _ (h.1 i p M G),fun g=>j _ _ (h.2 g)⟩
    ·exact h.elim
   ·exact h.elim
  case entry x=>
   unfold C9 at h⊢;simp only at h⊢;split at h
   ·split at h
    ·obtain⟨i,p,M,G,O⟩:=h;exact⟨i,p,M,G,j _ _ O⟩
    ·exact h.elim
   ·exact h.elim
  case convert s t x=>
   have e1:A3J P ev H K s t x→A3J P ev H T s t x:=fun h=>by
    unfold A3J at h⊢;split at h
    ·exact⟨h.1,h.2.1,fun b hb=>j _ _ (h.2.2 b hb)⟩
    ·rcases h with⟨h1,o,z,y,A⟩|⟨h1,o,b,z,y,A,h5,q⟩
     ·exact .inl ⟨h1,o,z,y,j _ _ A⟩
     ·exact .inr ⟨h1,o,b,z,y,A,h5,j _ _ q⟩
   simp only[C9]at h⊢;exact e1 h
  case call cc=>
   obtain⟨callee,args,a0⟩:=cc;cases callee with
   |value f=>
    unfold C9 at h⊢;simp only at h⊢;split at h
    ·exact ACalls.mono h j
    ·exact h.elim
   |invoke r m=>unfold C9 at h;simp only at h;try(split at h<;>first|exact h.elim|(rename_i I;exact absurd I hc))
   |builtin b=>
    cases b
    case append=>
     unfold C9 at h⊢;simp only at h⊢;split at h
     ·unfold A1F at h⊢;obtain⟨e,sz,u,h1,o,y,A,xs,h5,q⟩:=h;refine⟨e,sz,u,h1,o,y,A,xs,h5,?_⟩;split at q
      ·exact⟨q.1,q.2.1,fun g=>j _ _ (q.2.2.1 g),fun g b hb=>j _ _ (q.2.2.2 g b hb)⟩
      ·refine⟨q.1,?_⟩;rcases q.2 with⟨M,es,G,O,X,Y,g6⟩|⟨es,G,O,X,Y,g6⟩
       ·exact .inl ⟨M,es,G,O,X,Y,fun b' J=>j _ _ (g6 b' J)⟩
       ·exact .inr ⟨es,G,O,X,Y,fun b' pre J=>j _ _ (g6 b' pre J)⟩
      ·exact q.elim
     ·exact h.elim
    case len=>
     have e1:(match args.toList with| [x]=>∃kvs,X7 H (ev x)=some kvs∧K (.int .i64 kvs.length) H|_=>False)→(match args.toList with| [x]=>∃kvs,X7 H (ev x)=some kvs∧T (.int .i64 kvs.length) H|_=>False):=fun h=>by
      split at h
      ·obtain⟨kvs,h1,o⟩:=h;exact⟨kvs,h1,j _ _ o⟩
      ·exact h.elim
     unfold C9 at h⊢;simp only at h⊢;exact e1 h
    all_goals
     unfold C9 at h;simp only at h
     try(split at h<;>first|exact h.elim|(rename_i I;exact absurd I hc))
  case makeMap t r=>
   cases r with
   |none=>exact fun b hb=>j _ _ (h b hb)
   |some x=>unfold C9 at h;simp only at h;try(split at h<;>first|exact h.elim|(rename_i I;exact absurd I hc))
  all_goals (unfold C9 at h;simp only at h;try(split at h<;>first|exact h.elim|(rename_i I;exact absurd I hc)))
def B5n(bl:List Nat)(ev:Operand→D):Op→Prop
 | .load _ x=>∀b∈rdB (ev x),b∈bl
 |_=>False
abbrev Kg:=FEnv→Heap→Prop
def B1w(P:Program)(bl:List Nat)(o:Oper)(K:Kg)(F:FEnv)(H:Heap):Prop:=
 o.guard=none∧(I4 P o.op= .load→B5n bl F.ev o.op)∧C9 P F.ev H (fun d H'=>(∀k∈bl,H' k=H k)∧K (F.put o.dst d) H') o.op
theorem B4N{o:Oper}{K i:Kg}(h: ∀F H,K F H→i F H){F:FEnv}{H:Heap}(hk:B1w P bl o K F H):B1w P bl o i F H:=
 ⟨hk.1,hk.2.1,A0y (fun d H' g=>⟨g.1,h _ _ g.2⟩) hk.2.2⟩
def B4O(P:Program)(o:Oper)(K:Kg)(F:FEnv)(H:Heap):Prop:=
 o.guard=none∧C9 P F.ev H (fun d H'=>K (F.put o.dst d) H') o.op
theorem A7Z{o:Oper}{K i:Kg}{F:FEnv}{H:Heap}(h: ∀d H',K (F.put o.dst d) H'→i (F.put o.dst d) H')(hk:B4O P o K F H):B4O P o i F H:=
 ⟨hk.1,A0y (fun d H' g=>h d H' g) hk.2⟩
def Yld(P:Program)(bl:List Nat)(o:Oper)(d:D)(F:FEnv)(H:Heap):Prop:=
 (I4 P o.op= .pure∧L1 P F.ev o.op=some d)∨∃t x,o.op= .load t x∧(∀b∈rdB (F.ev x),b∈bl)∧y5 P t (F.ev x) H=some d
theorem C2z{o:Oper}{K:Kg}{F:FEnv}{H:Heap}(hc:I4 P o.op≠ .eff)(h:B1w P bl o K F H):o.guard=none∧∃d,Yld P bl o d F H∧K (F.put o.dst d) H:=by
 obtain⟨h1,p,j⟩:=h;refine⟨h1,?_⟩;cases i:I4 P o.op with
 |pure=>
  rw[A0x i]at j;obtain⟨d,m,_,h5⟩:=j;exact⟨d,.inl ⟨i,m⟩,h5⟩
 |load=>
  have hr:=p i;obtain⟨dst,op,ty,pos,after,guard⟩:=o;cases op<;>try exact hr.elim
  rename_i t x;obtain⟨d,m,_,h5⟩:=j;exact⟨d,.inr ⟨t,x,rfl,hr,m⟩,h5⟩
 |eff=>exact absurd i hc
theorem A6A{o:Oper}{K:Kg}{F:FEnv}{H:Heap}{d:D}(i:o.guard=none)(j:Yld P bl o d F H)(h:K (F.put o.dst d) H):B1w P bl o K F H:=by
 rcases j with⟨hc,hp⟩|⟨t,x,ho,hr,hl⟩
 ·refine⟨i,(fun g=>by rw[hc]at g;cases g),?_⟩;rw[A0x hc];exact⟨d,hp,fun _ _=>rfl,h⟩
 ·refine⟨i,fun _=>by rw[ho];exact hr,?_⟩;rw[ho];exact⟨d,hl,fun _ _=>rfl,h⟩
theorem Yld.keep{ops:Array Oper}{o:Oper}{d:D}{F:FEnv}{H H':Heap}{dst:Option Tmp}{e:D}(h:Yld P bl o d F H)(j: ∀t,dst=some t→t∉o.looksAt ops)(m: ∀k∈bl,H' k=H k):Yld P bl o d (F.put dst e) H':=by
 have i:=Q4 (F:=F) (ops:=ops) (o:=o) (dst:=dst) (d:=e) j;rcases h with⟨hc,hp⟩|⟨t,x,ho,hr,hl⟩
 ·exact .inl ⟨hc,by rw[A1r hc i];exact hp⟩
 ·have hx:=i x (by rw[ho];simp[Op.operands]);refine .inr ⟨t,x,ho,by rw[hx];exact hr,?_⟩;rw[hx];unfold y5 at hl⊢;obtain⟨s,hs,hl⟩:=D1T.1 hl;obtain⟨cs,hc,hl⟩:=D1T.1 hl;rw[hs,D1l,A7W hc (fun b hb=>m b (hr b hb)),D1l];exact hl
section
variable {ops:Array Oper} {md:Region.Mode}
def A2l(P:Program)(ops:Array Oper)(j:Nat):Bool:=match ops[j]? with
 |some o=>I4 P o.op== .eff&&(List.range ops.size).all fun i=>match ops[i]? with
  |some oi=>I4 P oi.op== .eff||o.after.any fun e=>Region.binds .any e&&e.on==i
  |none=>true
 |none=>false
theorem A2O{j:Nat}{o:Oper}(ho:ops[j]? =some o)(h:I4 P o.op≠ .eff):A2l P ops j=false:=by
 cases g:A2l P ops j with
 |false=>rfl
 |true=>
  unfold A2l at g;rw[ho]at g;simp only[D1U,beq_iff_eq]at g;exact absurd g.1 h
theorem B1x{i j:Nat}{m oj:Oper}(o:ops[i]? =some m)(p:ops[j]? =some oj)(h:I4 P m.op≠ .eff)(g:A2l P ops j=true): ∃e∈oj.after,Region.binds .any e=true∧e.on=i:=by
 unfold A2l at g;rw[p]at g;simp only[D1U,D1s,List.mem_range]at g;have:=g.2 i (D1g.1 o).1;rw[o]at this;simp only[D2e,beq_iff_eq]at this;rcases this with k|k
 ·exact absurd k h
 ·obtain⟨e,he,hb⟩:=Array.any_eq_true'.1 k;simp only[D1U,beq_iff_eq]at hb;exact⟨e,he,hb.1,hb.2⟩
theorem A8a{o:Oper}{d:D}{F:FEnv}{H:Heap}(h:Yld P bl o d F H):I4 P o.op≠ .eff:=by
 rcases h with⟨hc,_⟩|⟨t,x,ho,_⟩
 ·rw[hc];intro e;cases e
 ·rw[ho];intro e;simp[I4]at e
def sG(P:Program)(bl:List Nat)(ops:Array Oper)(i:Nat)(K:Kg):Kg:=match ops[i]? with
 |none=>K
 |some o=>B1w P (if A2l P ops i=true then []else bl) o K
theorem B9C{i:Nat}{K j:Kg}(h: ∀F H,K F H→j F H){F:FEnv}{H:Heap}(hk:sG P bl ops i K F H):sG P bl ops i j F H:=by
 unfold sG at hk⊢;cases m:ops[i]? with
 |none=>rw[m]at hk;exact h _ _ hk
 |some o=>rw[m]at hk;exact B4N h hk
def A8b(P:Program)(bl:List Nat)(md:Region.Mode)(ops:Array Oper)(K:Kg):Nat→Array Bool→Kg
 |0,listed=>fun F H=>Region.ready md ops listed= []∧K F H
 |fuel+1,listed=>fun F H=>(Region.ready md ops listed= []→K F H)∧∀i∈Region.ready md ops listed,sG P bl ops i (A8b P bl md ops K fuel (listed.setIfInBounds i true)) F H
theorem B1y{K:Kg}{i:Nat}{r:Oper}{d:D}{W:Nat→Prop}(G:ops[i]? =some r)(I:r.guard=none)(hW:Closed .any ops i W):
  ∀(fuel:Nat) (m:Array Bool) (F:FEnv) (H:Heap),(∀j,W j→m.getD j false=false)→
   (∀j oj,ops[j]? =some oj→¬W j→m.getD j true=false→r.apart ops oj=true)→
   i∈Region.ready .any ops m→Yld P bl r d F H→A8b P bl .any ops K fuel (m.setIfInBounds i true) (F.put r.dst d) H→A8b P bl .any ops K (fuel+1) m F H:=by
 intro fuel
 induction fuel with
 |zero=>
  intro m F H _ _ hr z h;refine⟨fun Y=>(by rw[Y]at hr;cases hr),fun j J=>?_⟩;by_cases p:j=i
  ·subst p;unfold sG;simp only[G,A2O G (A8a z),D1X,if_false];exact A6A I z h
  ·have:=ready_mono J p;rw[h.1]at this;cases this
 |succ fuel ih=>
  intro m F H M q hr z h;refine⟨fun Y=>(by rw[Y]at hr;cases hr),fun j J=>?_⟩;by_cases p:j=i
  ·subst p;unfold sG;simp only[G,A2O G (A8a z),D1X,if_false];exact A6A I z h
  ·obtain⟨y,oj,A,a0⟩:=mem_ready.1 J;have a6:A2l P ops j=false:=by
    cases g:A2l P ops j with
    |false=>rfl
    |true=>
     obtain⟨e,he,hb,rfl⟩:=B1x G A (A8a z) g;have h1:=a0 e he hb;obtain⟨O,_⟩:=mem_ready.1 hr;rw[F8 O]at h1;cases h1
   have T:=hW.not_ready M J p;have a9:=q j oj A T y;obtain⟨a1,a2,a3⟩:=Oper.apart_spec a9;have U: ∀k,W k→(m.setIfInBounds j true).getD k false=false:=fun k hk=>by
    rw[Q3 (fun e:j=k=>T (by rw[e];exact hk))];exact M k hk
   have u: ∀k ok,ops[k]? =some ok→¬W k→(m.setIfInBounds j true).getD k true=false→r.apart ops ok=true:=fun k ok hk b0 hu=>by
    refine q k ok hk b0 ?_;by_cases V:j=k
    ·subst V;exact y
    ·rw[getD_set_ne true V]at hu;exact hu
   have h1:=h.2 j (ready_mono J p);unfold sG at h1⊢;simp only[A,a6,D1X,if_false]at h1⊢;obtain⟨g1,g2,g3⟩:=h1;have X:=Q4 (F:=F) (ops:=ops) (o:=oj) (dst:=r.dst) (d:=d) a1;refine⟨g1,fun hl=>?_,?_⟩
   ·have b1:=g2 hl;have key: ∀op:Op,(∀x∈op.operands.toList,(F.put r.dst d).ev x=F.ev x)→B5n bl (F.put r.dst d).ev op→B5n bl F.ev op:=fun op hv hr=>by
     cases op with
     |load t x=>
      have hx:=hv x (by simp[Op.operands]);show∀b∈rdB (F.ev x),b∈bl;rw[←hx];exact hr
     |_=>exact hr.elim
    exact key _ X b1
   ·rw[B1v X]at g3;refine A0y (fun e H' hk=>⟨hk.1,ih (m.setIfInBounds j true) (F.put oj.dst e) H' U u (ready_mono hr (Ne.symm p)) (z.keep a3 hk.1) ?_⟩) g3;rw[Array.setIfInBounds_comm _ _ p,←A1t a2];exact hk.2
theorem B4P{K:Kg}{i:Nat}{y:Oper}{W:Nat→Prop}(G:ops[i]? =some y)(z:Closed .any ops i W)(fuel:Nat)(m:Array Bool)(F:FEnv)(H:Heap)(r: ∀j,W j→m.getD j false=false)
  (o: ∀j oj,ops[j]? =some oj→m.getD j true=false→W j) (hr:i∈Region.ready .any ops m) (h:sG P bl ops i (A8b P bl .any ops K fuel (m.setIfInBounds i true)) F H):A8b P bl .any ops K (fuel+1) m F H:=by
 refine⟨fun A=>(by rw[A]at hr;cases hr),fun j x=>?_⟩;by_cases p:j=i
 ·subst p;exact h
 ·obtain⟨q,oj,u,_⟩:=mem_ready.1 x;exact absurd (o j oj u q) (z.not_ready r x p)
def C1i(ops:Array Oper)(i:Nat)(acc:List Nat)(j:Nat):Bool:=match ops[j]? with
 |some o=>o.after.any fun e=>Region.binds .any e&&(e.on==i||acc.contains e.on)
 |none=>false
def A4y(ops:Array Oper)(i:Nat):List Nat→List Nat→List Nat
 | [],acc=>acc
 |j::l,acc=>A4y ops i l (if C1i ops i acc j=true then j::acc else acc)
def K8(P:Program)(ops:Array Oper):List Nat→List Nat→Bool
 | [],done=>(List.range ops.size).all fun i=>done.contains i
 |i::l,done=>(match ops[i]? with
  |some o=>(o.after.all fun e=> !Region.binds .any e||done.contains e.on)&&o.guard.isNone&& !done.contains i&& !l.contains i&&
    l.all fun j=>(A4y ops i l []).contains j||(I4 P o.op != .eff&&match ops[j]? with|some oj=>o.apart ops oj|none=>false)
  |none=>false)&&K8 P ops l (i::done)
def B5o(P:Program)(ops:Array Oper)(perm:List Nat):Bool:=decide (perm.length=ops.size)&&K8 P ops perm []&&match perm.getLast? with|some i=>A2l P ops i|none=>true
theorem A1M{i:Nat}: ∀(l m:List Nat),(∀j∈m,∃oj,ops[j]? =some oj∧∃e∈oj.after,Region.binds .any e=true∧(e.on=i∨e.on∈m))→
  (∀j∈A4y ops i l m,∃oj,ops[j]? =some oj∧∃e∈oj.after,Region.binds .any e=true∧(e.on=i∨e.on∈A4y ops i l m))∧(∀j∈m,j∈A4y ops i l m)∧∀j∈A4y ops i l m,j∈m∨j∈l
 | [],m,h=>⟨h,fun j p=>p,fun j p=>.inl p⟩
 |k::l,m,h=>by
  unfold A4y;split
  ·rename_i hc;have q: ∃oj,ops[k]? =some oj∧∃e∈oj.after,Region.binds .any e=true∧(e.on=i∨e.on∈m):=by
    unfold C1i at hc;split at hc
    ·rename_i o ho;obtain⟨e,he,hb⟩:=Array.any_eq_true'.1 hc;simp only[D1U,D2e,beq_iff_eq,List.contains_iff_mem]at hb;exact⟨o,ho,e,he,hb.1,hb.2⟩
    ·cases hc
   obtain⟨h1,r,u⟩:=A1M l (k::m) (fun j p=>by
    rcases D1j.1 p with rfl|p
    ·obtain⟨oj,a,e,b,c,d⟩:=q;exact⟨oj,a,e,b,c,d.imp id (D1Z _)⟩
    ·obtain⟨oj,a,e,b,c,d⟩:=h j p;exact⟨oj,a,e,b,c,d.imp id (D1Z _)⟩)
   exact⟨h1,fun j p=>r j (D1Z _ p),fun j p=>by
    rcases u j p with g|g
    ·rcases D1j.1 g with rfl|g
     ·exact .inr (D1S ..)
     ·exact .inl g
    ·exact .inr (D1Z _ g)⟩
  ·obtain⟨h1,r,u⟩:=A1M l m h;exact⟨h1,r,fun j p=>(u j p).imp id (D1Z _)⟩
def B5p(P:Program)(bl:List Nat)(ops:Array Oper)(K:Kg):List Nat→Kg
 | []=>K
 |i::l=>sG P bl ops i (B5p P bl ops K l)
theorem B4Q{K:Kg}: ∀(l done:List Nat) (m:Array Bool),(∀j,m.getD j false=true↔j∈done)→m.size=ops.size→K8 P ops l done=true→
  ∀F H,B5p P bl ops K l F H→A8b P bl .any ops K l.length m F H:=by
 intro l
 induction l with
 |nil=>
  intro done m O hsz p F H h;refine⟨?_,h⟩;cases hr:Region.ready .any ops m with
  |nil=>rfl
  |cons x xs=>
   exfalso;have hx:x∈Region.ready .any ops m:=by rw[hr];simp
   obtain⟨h0,o,ho,_⟩:=mem_ready.1 hx;have T:=(D1g.1 ho).1;simp only[K8,D1s,List.mem_range,List.contains_iff_mem]at p;have:=(O x).2 (p x T);rw[F8 h0]at this;cases this
 |cons i l ih=>
  intro done m O hsz p F H h;simp only[K8,D1U]at p;obtain⟨p,u⟩:=p;cases J:ops[i]? with
  |none=>rw[J]at p;cases p
  |some oi=>
  rw[J]at p;simp only[D1U,Bool.not_eq_true',Option.isNone_iff_eq_none,D1s,D2e,List.contains_iff_mem,bne_iff_ne,ne_eq]at p;obtain⟨⟨⟨⟨he,hg⟩,a0⟩,a6⟩,A⟩:=p;have c0:=(D1g.1 J).1;have M:i∉done:=fun g=>by rw[List.contains_iff_mem.2 g]at a0;cases a0
  have c2:i∉l:=fun g=>by rw[List.contains_iff_mem.2 g]at a6;cases a6
  have y:i∈Region.ready .any ops m:=by
   rw[mem_ready];refine⟨?_,oi,J,fun e b4 hb=>?_⟩
   ·have hf:m.getD i false=false:=by
     cases hh:m.getD i false with
     |false=>rfl
     |true=>exact absurd ((O i).1 hh) M
    have U:i<m.size:=by omega
    simp[U]at hf⊢;exact hf
   ·rw[O];rw[Array.all_eq_true_iff_forall_mem]at he;have:=he e b4;simpa [hb]using this
  have b6: ∀j,(m.setIfInBounds i true).getD j false=true↔j∈i::done:=fun j=>by
   by_cases V:i=j
   ·subst V;have U:i<m.size:=by omega
    simp[U]
   ·rw[getD_set_ne false V,O];simp[Ne.symm V]
  have a9:(m.setIfInBounds i true).size=ops.size:=by simpa using hsz
  obtain⟨w1,_,w3⟩:=A1M (ops:=ops) (i:=i) l [] (fun j q=>by cases q)
  let W:Nat→Prop:=fun j=>j=i∨j∈A4y ops i l []
  have b0:Closed .any ops i W:=by
   refine⟨.inl rfl,fun j oj q b7 r=>?_⟩;rcases q with q|q
   ·exact absurd q b7
   ·obtain⟨c4,a,e,b,c,d⟩:=w1 j q;rw[r]at a;cases a;exact⟨e,b,c,d⟩
  --what comes later is not listed
  have G: ∀(l done:List Nat),K8 P ops l done=true→∀j∈l,j∉done:=by
   intro l
   induction l with
   |nil=>intro _ _ j q;cases q
   |cons k l X=>
    intro done p j q;simp only[K8,D1U]at p;obtain⟨p,b8⟩:=p;rcases D1j.1 q with rfl|q
    ·split at p
     ·simp only[D1U,Bool.not_eq_true']at p;intro g;rw[List.contains_iff_mem.2 g]at p;simp at p
     ·cases p
    ·exact fun g=>X (k::done) b8 j q (D1Z _ g)
  have b1: ∀j,W j→m.getD j false=false:=fun j q=>by
   cases hh:m.getD j false with
   |false=>rfl
   |true=>
    have hd:=(O j).1 hh;rcases q with rfl|q
    ·exact absurd hd M
    ·rcases w3 j q with g|g
     ·cases g
     ·exact absurd (D1Z _ hd) (G l (i::done) u j g)
  --all that is not listed stands in the list
  have I: ∀(l done:List Nat),K8 P ops l done=true→∀j,j<ops.size→j∈done∨j∈l:=by
   intro l
   induction l with
   |nil=>
    intro done p j q;simp only[K8,D1s,List.mem_range,List.contains_iff_mem]at p;exact .inl (p j q)
   |cons k l X=>
    intro done p j q;simp only[K8,D1U]at p;rcases X (k::done) p.2 j q with g|g
    ·rcases D1j.1 g with rfl|g
     ·exact .inr (D1S ..)
     ·exact .inl g
    ·exact .inr (D1Z _ g)
  have z: ∀j oj,ops[j]? =some oj→m.getD j true=false→j=i∨j∈l:=fun j oj r hu=>by
   have T:=(D1g.1 r).1;have hf:=F8 hu;rcases I l (i::done) u j T with g|g
   ·rcases D1j.1 g with rfl|g
    ·exact .inl rfl
    ·rw[(O j).2 g]at hf;cases hf
   ·exact .inr g
  have hst:sG P bl ops i (A8b P bl .any ops K l.length (m.setIfInBounds i true)) F H:=B9C (fun F' H' g=>ih (i::done) _ b6 a9 u F' H' g) h;by_cases hc:I4 P oi.op= .eff
  ·refine B4P J b0 l.length m F H b1 (fun j oj r hu=>?_) y hst;rcases z j oj r hu with rfl|Y
   ·exact .inl rfl
   ·rcases A j Y with g|g
    ·exact .inr g
    ·exact absurd hc g.1
  ·have b2:B1w P bl oi (A8b P bl .any ops K l.length (m.setIfInBounds i true)) F H:=by
    unfold sG at hst;simpa only[J,A2O J hc,D1X,if_false]using hst
   obtain⟨b9,d,hy,hK⟩:=C2z hc b2;refine B1y J b9 b0 l.length m F H b1 (fun j oj r b3 hu=>?_) y hy hK;rcases z j oj r hu with rfl|Y
   ·exact absurd (.inl rfl) b3
   ·rcases A j Y with g|g
    ·exact absurd (.inr g) b3
    ·have:=g.2;rw[r]at this;exact this
structure StO(N:Nat)(w0:World)(H0:Heap)(F:FEnv)(H:Heap)(a:Act)(w:World):Prop where
 size:a.tmps.size=N
 defers:a.defers= []
 env: ∀i,R w H (F i) (a.eval (.tmp i))
 sat:Sat H w
 ext:Ext H0 w0 w
 frm:From w0 H0 H
theorem StO.evR{N:Nat}{w0:World}{H0:Heap}{F:FEnv}{a:Act}{w:World}(h:StO N w0 H0 F H a w)(x:Operand):R w H (F.ev x) (a.eval x):=by
 cases x with
 |tmp t=>exact h.env t
 |const v=>exact A2J w H v
 |global g=>exact .glob g
 |func f=>exact .fn _ _ _ _ _ rfl rfl (by simp) (by simp)
theorem A6B{N:Nat}{w0:World}{H0:Heap}{o:Oper}{K:Kg}{F:FEnv}{a:Act}{w:World}(hd: ∀t,o.dst=some t→t<N)(h:B4O P o K F H)(hst:StO N w0 H0 F H a w):
  opSem P none o a w fun v w'=>∃r H',StO N w0 H0 r H' (a.put o.dst v) w'∧K r H':=by
 refine(N5 (o:=o) hst.sat hst.evR h.2).mono fun v w' hp=>?_;obtain⟨d,H',u,x,p,q,hk⟩:=hp;refine⟨F.put o.dst d,H',⟨?_,?_,fun i=>?_,x,hst.ext.trans hst.frm p,hst.frm.trans hst.ext.size q⟩,hk⟩
 ·cases j:o.dst<;>simp[Act.put,hst.size]
 ·cases j:o.dst<;>simp[Act.put,hst.defers]
 ·cases j:o.dst with
  |none=>exact(hst.env i).mono p q
  |some t=>
   have ht:=hd t j;simp only[FEnv.put];by_cases m:t=i
   ·subst m;rw[if_pos rfl];have:(a.put (some t) v).eval (.tmp t)=v:=by
     have y:t<a.tmps.size:=by rw[hst.size];exact ht
     simp[Act.eval,Act.put,y]
    rw[this];exact u
   ·rw[if_neg m];have:(a.put (some t) v).eval (.tmp i)=a.eval (.tmp i):=by
     simp[Act.eval,Act.put,D1v m]
    rw[this];exact(hst.env i).mono p q
theorem B1z{N:Nat}{w0:World}{H0:Heap}{o:Oper}{K:Kg}{F:FEnv}{a:Act}{w:World}(hd: ∀t,o.dst=some t→t<N)(h:B1w P bl o K F H)(hst:StO N w0 H0 F H a w):
  opSem P none o a w fun v w'=>∃i H',StO N w0 H0 i H' (a.put o.dst v) w'∧K i H':=A6B hd ⟨h.1,A0y (fun _ _ g=>g.2) h.2.2⟩ hst
theorem A2w{N:Nat}{w0:World}{H0:Heap}{K:Kg}{Q:Exit→Act→World→Prop}(hd: ∀o∈ops.toList,∀t,o.dst=some t→t<N)
  (q: ∀F H a w,StO N w0 H0 F H a w→K F H→Q .normal a w): ∀(fuel:Nat) (j:Array Bool) (F:FEnv) (H:Heap) (a:Act) (w:World),
  A8b P bl md ops K fuel j F H→StO N w0 H0 F H a w→Go.wpAny P md ops Q fuel j a w
 |0,_,F,H,a,w,h,hst=>⟨h.1,q _ _ _ _ hst h.2⟩
 |fuel+1,j,F,H,a,w,h,hst=>⟨fun r=>q _ _ _ _ hst (h.1 r),fun i u=>by
   have h1:=h.2 i u;unfold sG at h1;unfold Go.wpOp;split
   ·rename_i hn;simp only[hn]at h1;exact A2w hd q fuel _ _ _ _ _ h1 hst
   ·rename_i o ho;simp only[ho]at h1;have m:o∈ops.toList:=by rw[D1w];exact Array.mem_of_getElem? ho
    rw[if_pos (by simp[Region.wanted,h1.1])];exact .inl (opSem.wp ((B1z (hd o m) h1 hst).mono fun v w' hv=>by
     obtain⟨x,H',p,hk⟩:=hv;exact A2w hd q fuel _ _ _ _ _ hk p))⟩
def A1u:List Oper→Nat→Option Oper
 | [],_=>none
 |o::_,0=>some o
 |_::l,i+1=>A1u l i
theorem B0D: ∀(l:List Oper) (i:Nat),A1u l i=l[i]?
 | [],_=>rfl
 |_::_,0=>rfl
 |_::l,i+1=>by rw[A1u,B0D l i];rfl
def wpG(P:Program)(bl:List Nat)(K:Env→Heap→Prop):List (Option Oper)→Env→Heap→Prop
 | [],E,H=>K E H
 |none::l,E,H=>False
 |some o::l,E,H=>(I4 P o.op= .load→B5n bl E.ev o.op)∧C9 P E.ev H (fun d H'=>(l= []∨∀k∈bl,H' k=H k)∧wpG P bl K l (E.put o.dst d) H') o.op
theorem B0E{K:Env→Heap→Prop}(y: ∀(i:Nat) (o:Oper),ops[i]? =some o→o.guard=none): ∀(l:List Nat) (E:Env) (F:FEnv) (H:Heap),(∀i,l.getLast?=some i→A2l P ops i=true)→(∀t,E.get t=F t)→wpG P bl K (l.map (A1u ops.toList)) E H→
  B5p P bl ops (fun F H=>∃E,(∀t,E.get t=F t)∧K E H) l F H
 | [],E,F,H,hl,p,h=>⟨E,p,h⟩
 |i::l,E,F,H,hl,p,h=>by
  have q:F.ev=E.ev:=by
   funext x
   cases x with
   |tmp t=>exact(p t).symm
   |_=>rfl
  show sG P bl ops i _ F H;unfold sG;rw[D2Y,B0D,Array.getElem?_toList]at h;cases m:ops[i]? with
  |none=>rw[m]at h;exact h.elim
  |some o=>
   rw[m]at h;obtain⟨h1,z⟩:=h;simp only;refine⟨y i o m,fun hc=>?_,?_⟩
   ·rw[A2O m (by rw[hc];intro e;cases e),q];exact h1 hc
   rw[q];refine A0y (fun d H' hk=>⟨fun k j=>?_,B0E y l (E.put o.dst d) _ H' (fun i m=>?_) (fun t=>?_) hk.2⟩) z
   ·rcases hk.1 with g|g
    ·have r:l= []:=by simpa using g
     subst r;rw[hl i (by simp)]at j;simp at j
    ·refine g k ?_;split at j
     ·cases j
     ·exact j
   ·refine hl i ?_;cases l with
    |nil=>cases m
    |cons x l=>rw[List.getLast?_cons_cons];exact m
   cases o.dst with
   |none=>exact p t
   |some u=>
    simp only[Env.put,Env.get,FEnv.put];split
    ·rfl
    ·exact p t
theorem A4z: ∀(l done:List Nat),K8 P ops l done=true→∀(i:Nat) (o:Oper),i∈l→ops[i]? =some o→o.guard=none
 | [],_,_,i,_,j,_=>by cases j
 |k::l,done,h,i,o,j,ho=>by
  simp only[K8,D1U]at h;rcases D1j.1 j with rfl|j
  ·rw[ho]at h;simp only[D1U,Option.isNone_iff_eq_none]at h;exact h.1.1.1.1.2
  ·exact A4z l (k::done) h.2 i o j ho
theorem okOrd_cover: ∀(l done:List Nat),K8 P ops l done=true→∀j,j<ops.size→j∈done∨j∈l
 | [],done,h,j,i=>by
  simp only[K8,D1s,List.mem_range,List.contains_iff_mem]at h;exact .inl (h j i)
 |k::l,done,h,j,i=>by
  simp only[K8,D1U]at h;rcases okOrd_cover l (k::done) h.2 j i with g|g
  ·rcases D1j.1 g with rfl|g
   ·exact .inr (D1S ..)
   ·exact .inl g
  ·exact .inr (D1Z _ g)
theorem B5q{N:Nat}{w0:World}{H0:Heap}{id:Nat}{perm:List Nat}{K:Env→Heap→Prop}{Q:Exit→Act→World→Prop}{a:Act}{w:World}{E:Env}(hm:P.follows .mixedOrders=true)(m:B5o P ops perm=true)
  (hd: ∀o∈ops.toList,∀t,o.dst=some t→t<N)
  (u: ∀E H a w,a.tmps.size=N→a.defers= []→(∀i,R w H (E.get i) (a.eval (.tmp i)))→Sat H w→Ext H0 w0 w→From w0 H0 H→K E H→Q .normal a w)
  (h1:a.tmps.size=N) (x:a.defers= []) (y: ∀i,R w H (E.get i) (a.eval (.tmp i))) (z:Sat H w) (h5:Ext H0 w0 w) (r:From w0 H0 H)
  (h:wpG P bl K (perm.map (A1u ops.toList)) E H):(Code.region id ops true).wp P Q a w:=by
 simp only[B5o,D1U,D1d]at m;obtain⟨⟨hlen,m⟩,p⟩:=m;have A: ∀(i:Nat) (o:Oper),ops[i]? =some o→o.guard=none:=fun i o ho=>by
  rcases okOrd_cover perm [] m i (D1g.1 ho).1 with g|g
  ·cases g
  ·exact A4z perm [] m i o g ho
 have he:Ext H w {w with drawn:=w.drawn+1}:=Ext.drewN H w 1;have q:=z.same (w':={w with drawn:=w.drawn+1}) rfl he;refine wp_region_any hm ?_;rw[←hlen];refine A2w (P:=P) (bl:=bl) (md:=.any) (ops:=ops) (N:=N) (w0:=w0) (H0:=H0) (K:=fun F H=>∃E,(∀t,E.get t=F t)∧K E H) hd (fun F H a w hst hk=>?_) perm.length _ E.get H a _ ?_ ?_
 ·obtain⟨E,G,hk⟩:=hk;exact u E H a w hst.size hst.defers (fun i=>by rw[G];exact hst.env i) hst.sat hst.ext hst.frm hk
 ·exact B4Q perm [] _ (fun j=>by simp[Array.getElem?_replicate];split<;>simp) (by simp[hlen]) m E.get H (B0E A perm E E.get H (fun i I=>by rw[I]at p;exact p) (fun _=>rfl) h)
 ·exact⟨h1,x,fun i=>(y i).mono he (D2o _ _),q,h5.trans r he,r⟩
def B9D(P:Program)(ops:Array Oper)(K:Kg):Nat→Array Bool→Kg
 |0,listed=>fun F H=>Region.ready .any ops listed= []∧K F H
 |fuel+1,listed=>fun F H=>(Region.ready .any ops listed= []→K F H)∧∀i∈Region.ready .any ops listed,∀o,ops[i]? =some o→B4O P o (B9D P ops K fuel (listed.setIfInBounds i true)) F H
theorem A6C{N:Nat}{w0:World}{H0:Heap}{K:Kg}{Q:Exit→Act→World→Prop}(hd: ∀o∈ops.toList,∀t,o.dst=some t→t<N)
  (q: ∀F H a w,StO N w0 H0 F H a w→K F H→Q .normal a w): ∀(fuel:Nat) (j:Array Bool) (F:FEnv) (H:Heap) (a:Act) (w:World),
  B9D P ops K fuel j F H→StO N w0 H0 F H a w→Go.wpAny P .any ops Q fuel j a w
 |0,_,F,H,a,w,h,hst=>⟨h.1,q _ _ _ _ hst h.2⟩
 |fuel+1,j,F,H,a,w,h,hst=>⟨fun u=>q _ _ _ _ hst (h.1 u),fun i r=>by
   have h1:=h.2 i r;unfold Go.wpOp;split
   ·rename_i hn;obtain⟨_,o,ho,_⟩:=mem_ready.1 r;rw[hn]at ho;cases ho
   ·rename_i o ho;have h1:=h1 o ho;have m:o∈ops.toList:=by rw[D1w];exact Array.mem_of_getElem? ho
    rw[if_pos (by simp[Region.wanted,h1.1])];exact .inl (opSem.wp ((A6B (hd o m) h1 hst).mono fun v w' hv=>by
     obtain⟨x,H',p,hk⟩:=hv;exact A6C hd q fuel _ _ _ _ _ hk p))⟩
def B4R(P:Program)(K:Env→Heap→Prop)(ops:Array Oper)(E:Env)(H:Heap):Prop:=
 B9D P ops (fun F H=>∃E,(∀t,E.get t=F t)∧K E H) ops.size (Array.replicate ops.size false) E.get H
theorem B4S{N:Nat}{w0:World}{H0:Heap}{id:Nat}{K:Env→Heap→Prop}{Q:Exit→Act→World→Prop}{a:Act}{w:World}{E:Env}(hm:P.follows .mixedOrders=true)
  (hd: ∀o∈ops.toList,∀t,o.dst=some t→t<N)
  (p: ∀E H a w,a.tmps.size=N→a.defers= []→(∀i,R w H (E.get i) (a.eval (.tmp i)))→Sat H w→Ext H0 w0 w→From w0 H0 H→K E H→Q .normal a w)
  (h1:a.tmps.size=N) (q:a.defers= []) (r: ∀i,R w H (E.get i) (a.eval (.tmp i))) (u:Sat H w) (h5:Ext H0 w0 w) (m:From w0 H0 H)
  (h:B4R P K ops E H):(Code.region id ops true).wp P Q a w:=by
 have he:Ext H w {w with drawn:=w.drawn+1}:=Ext.drewN H w 1;have j:=u.same (w':={w with drawn:=w.drawn+1}) rfl he;refine wp_region_any hm ?_;refine A6C (P:=P) (ops:=ops) (N:=N) (w0:=w0) (H0:=H0) (K:=fun F H=>∃E,(∀t,E.get t=F t)∧K E H) hd (fun F H a w hst hk=>?_) ops.size _ E.get H a _ ?_ ?_
 ·obtain⟨E,x,hk⟩:=hk;exact p E H a w hst.size hst.defers (fun i=>by rw[x];exact hst.env i) hst.sat hst.ext hst.frm hk
 ·exact h
 ·exact⟨h1,q,fun i=>(r i).mono he (D2o _ _),j,h5.trans m he,m⟩
def A8c(ops:Array Oper):Bool:=(List.range ops.size).all fun i=>match ops[i]? with
 |some o=>o.after.all fun e=> !Region.binds .any e||decide (e.on<i)
 |none=>true
theorem B5r(hb:A8c ops=true){h:Array Bool}(hsz:h.size=ops.size)(hr:Region.ready .any ops h= []): ∀i,i<ops.size→h.getD i false=true:=by
 intro i
 induction i using Nat.strongRecOn with
 |ind i r=>
 intro j;cases p:h.getD i false with
 |true=>rfl
 |false=>
  exfalso;have:i∈Region.ready .any ops h:=by
   rw[mem_ready];have m:i<h.size:=by omega
   refine⟨by simp[m]at p⊢;exact p,ops[i],by simp[j],fun e he o=>?_⟩;unfold A8c at hb;simp only[D1s,List.mem_range]at hb;have h1:=hb i j;rw[Array.getElem?_eq_getElem j]at h1;simp only at h1;rw[Array.all_eq_true_iff_forall_mem]at h1;have q:=h1 e he;simp only[o,D2f,Bool.false_or,D1d]at q;exact r e.on q (by omega)
  rw[hr]at this;cases this
theorem B5s{K:Env→Heap→Prop}{E:Env}{H:Heap}(j:Array Bool→Kg)(hb:A8c ops=true)(y:j (Array.replicate ops.size false) E.get H)
  (hs: ∀(listed:Array Bool) F H i o,listed.size=ops.size→j listed F H→ops[i]? =some o→listed.getD i false=false→(∀e∈o.after,Region.binds .any e=true→listed.getD e.on false=true)→B4O P o (j (listed.setIfInBounds i true)) F H)
  (A: ∀(listed:Array Bool) F H,(∀i,i<ops.size→listed.getD i false=true)→j listed F H→∃E,(∀t,E.get t=F t)∧K E H):B4R P K ops E H:=by
 have key: ∀(fuel:Nat) (listed:Array Bool) F H,listed.size=ops.size→listed.toList.count false≤fuel→j listed F H→B9D P ops (fun F H=>∃E,(∀t,E.get t=F t)∧K E H) fuel listed F H:=by
  intro fuel
  induction fuel with
  |zero=>
   intro listed F H hsz hc u;have m: ∀i,i<ops.size→listed.getD i false=true:=fun i G=>by
    have h:i<listed.size:=by omega
    cases p:listed.getD i false with
    |true=>rfl
    |false=>
     exfalso;have hm:false∈listed.toList:=by
      rw[List.mem_iff_getElem];exact⟨i,by simpa using h,by simp[h]at p;simpa using p⟩
     have:=List.count_pos_iff.2 hm;omega
   refine⟨?_,A listed F H m u⟩;cases hr:Region.ready .any ops listed with
   |nil=>rfl
   |cons x xs=>
    exfalso;have hx:x∈Region.ready .any ops listed:=by rw[hr];simp
    obtain⟨y,o,ho,_⟩:=mem_ready.1 hx;have:=m x (D1g.1 ho).1;rw[F8 y]at this;cases this
  |succ fuel I=>
   intro listed F H hsz hc u;refine⟨fun hr=>A listed F H (B5r hb hsz hr) u,fun i G o ho=>?_⟩;obtain⟨q,o',r,hw⟩:=mem_ready.1 G;rw[ho]at r;cases r;have J:=(D1g.1 ho).1;have h:i<listed.size:=by omega
   refine A7Z (fun d H' z=>I _ _ H' (by simpa using hsz) ?_ z) (hs listed F H i o hsz u ho (F8 q) hw);rw[Array.toList_setIfInBounds,List.count_set (by simpa using h)];have p:=F8 q;simp[h]at p;have hm:false∈listed.toList:=by
    rw[List.mem_iff_getElem];exact⟨i,by simpa using h,by simpa using p⟩
   have hp:=List.count_pos_iff.2 hm;have e1:listed.toList[i]'(by simpa using h)=false:=by simpa using p
   have e2:(true==false)=false:=rfl;simp only[e1,e2,beq_self_eq_true,if_true,D1X,if_false];omega
 exact key ops.size _ E.get H (by simp) (by simp) y
def A6D(E:Env)(F:FEnv):List Nat→Env
 | []=>E
 |t::l=>(A6D E F l).put (some t) (F t)
theorem B5t{E:Env}{F:FEnv}: ∀(l:List Nat),(∀t,t∉l→F t=E.get t)→∀t,(A6D E F l).get t=F t
 | [],h,t=>(h t (by simp)).symm
 |x::l,h,t=>by
  show (if x=t then F x else(A6D E F l).get t)=F t;by_cases hx:x=t
  ·rw[if_pos hx,hx]
  ·rw[if_neg hx];by_cases ht:t∈l
   ·have key: ∀(l:List Nat),t∈l→(A6D E F l).get t=F t:=fun l=>by
     induction l with
     |nil=>intro h;cases h
     |cons y l j=>
      intro hm;show (if y=t then F y else(A6D E F l).get t)=F t;by_cases i:y=t
      ·rw[if_pos i,i]
      ·rw[if_neg i];exact j ((D1j.1 hm).resolve_left (fun e=>i e.symm))
    exact key l ht
   ·have key: ∀(l:List Nat),t∉l→(A6D E F l).get t=E.get t:=fun l=>by
     induction l with
     |nil=>intro _;rfl
     |cons y l j=>
      intro hm;show (if y=t then F y else(A6D E F l).get t)=E.get t;rw[if_neg (fun e=>hm (by rw[e];exact D1S ..))];exact j fun g=>hm (D1Z _ g)
    rw[key l ht];exact(h t (by simp only[D1j,not_or];exact⟨fun e=>hx e.symm,ht⟩)).symm
theorem B4T{K:Env→Heap→Prop}{E:Env}{H:Heap}(ds:List Nat)(h:Array Bool→Kg)(hb:A8c ops=true)(hd:(ops.all fun o=>match o.dst with|some t=>ds.contains t|none=>true)=true)(q:h (Array.replicate ops.size false) E.get H)
  (hs: ∀(listed:Array Bool) F H i o,listed.size=ops.size→h listed F H→(∀t,t∉ds→F t=E.get t)→ops[i]? =some o→listed.getD i false=false→(∀e∈o.after,Region.binds .any e=true→listed.getD e.on false=true)→B4O P o (h (listed.setIfInBounds i true)) F H)
  (r: ∀(listed:Array Bool) F H,(∀i,i<ops.size→listed.getD i false=true)→h listed F H→K (A6D E F ds) H):B4R P K ops E H:=by
 refine B5s (fun listed F H=>h listed F H∧∀t,t∉ds→F t=E.get t) hb ⟨q,fun _ _=>rfl⟩ (fun listed F H i o h1 j p x h5=>?_) fun listed F H h1 j=>⟨_,B5t ds j.2,r listed F H h1 j.1⟩
 refine A7Z (fun d H' g=>⟨g,fun t ht=>?_⟩) (hs listed F H i o h1 j.1 j.2 p x h5);rw[Array.all_eq_true_iff_forall_mem]at hd;have:=hd o (Array.mem_of_getElem? p);cases m:o.dst with
 |none=>exact j.2 t ht
 |some u=>
  rw[m]at this;simp only[List.contains_iff_mem]at this;show (if u=t then d else F t)=_;rw[if_neg (fun e=>ht (by rw[←e];exact this))];exact j.2 t ht
end
end
inductive AX where
 |normal
 |exit (id:Nat)
 |ret
def wpOps(P:Program)(gs:List (Option Nat))(K:Env→Heap→Prop):List Oper→Env→Heap→Prop
 | [],E,H=>K E H
 |o::l,E,H=>match o.guard with
  |none=>C9 P E.ev H (fun d H'=>wpOps P gs K l (E.put o.dst d) H') o.op
  |some (j,want)=>A1s E (H7 gs j) want (fun E=>C9 P E.ev H (fun d H'=>wpOps P gs K l (E.put o.dst d) H') o.op) (fun E=>wpOps P gs K l (E.put o.dst (.tuple [])) H)
structure St(N:Nat)(w0:World)(H0:Heap)(E:Env)(H:Heap)(a:Act)(w:World):Prop where
 size:a.tmps.size=N
 defers:a.defers= []
 env: ∀i,R w H (E.get i) (a.eval (.tmp i))
 sat:Sat H w
 ext:Ext H0 w0 w
 frm:From w0 H0 H
def A1N(E0:Env)(H0:Heap)(E:Env)(H:Heap):Prop:=∀(N:Nat) (w0:World) (Hz:Heap) (a:Act) (w:World),St N w0 Hz E H a w→St N w0 Hz E0 H0 a w
def B23(body:(Env→Heap→Prop)→Env→Heap→Prop)(E:Env)(H:Heap):Prop:=
 ∃(I:Nat→Env→Heap→Prop),(∃n E0 H0,A1N E0 H0 E H∧I n E0 H0)∧∀n E H,I n E H→body (fun E' H'=>∃m E0 H0,m<n∧A1N E0 H0 E' H'∧I m E0 H0) E H
def Env.fix(E:Env)(c:Operand)(b:Bool):Env:=match c with
 | .tmp t=>(t,.bool b)::E
 |_=>E
inductive Rc where
 |rd (sx:Bool)
 |par
 |ord (perm:List Nat)
 |rg
 |wk
 |any
def A0f(id:Nat):List (Nat×Rc)→Option Rc
 | []=>none
 |(i,sx)::Z=>if id=i then some sx else A0f id Z
def A8d(P:Program)(sx:Bool)(bl:List Nat)(K:Env→Heap→Prop):List Oper→Env→Heap→Prop
 | [],E,H=>K E H
 |o::l,E,H=>o.guard=none∧B5Z P sx bl E.ev H (fun d H'=>A8d P sx bl K l (E.put o.dst d) H') o.op
def Y5(P:Program)(bl:List Nat)(gs:List (Option Nat))(K:Env→Heap→Prop):List Oper→Env→Heap→Prop
 | [],E,H=>K E H
 |o::l,E,H=>match o.guard with
  |none=>A5w P bl E.ev H (fun d H'=>Y5 P bl gs K l (E.put o.dst d) H') o.op
  |some (j,want)=>A1s E (H7 gs j) want (fun E=>A5w P bl E.ev H (fun d H'=>Y5 P bl gs K l (E.put o.dst d) H') o.op) (fun E=>Y5 P bl gs K l (E.put o.dst (.tuple [])) H)
def wp(P:Program)(Z:List (Nat×Rc)):Code→(AX→Env→Heap→Prop)→Env→Heap→Prop
 | .skip,Q,E,H=>Q .normal E H
 | .region id ops _,Q,E,H=>match A0f id Z with
  |none=>wpOps P (ops.toList.map (·.dst)) (Q .normal) ops.toList E H
  |some (.rd sx)=>∃bl,(∀k∈bl,H k≠none)∧A8d P sx bl (Q .normal) ops.toList E H
  |some .par=>∃(cs:Nat→CR) (bs:Nat→Bl),B4L bs 0 ops.toList∧wpP P (ops.toList.map (·.dst)) cs bs (Q .normal) 0 ops.toList E H
  |some (.ord perm)=>∃bl:List Nat,wpG P bl (Q .normal) (perm.map (A1u ops.toList)) E H
  |some .rg=>∃bl,(∀k∈bl,H k≠none)∧Y5 P bl (ops.toList.map (·.dst)) (Q .normal) ops.toList E H
  |some .wk=>∃E0 H0,A1N E0 H0 E H∧wpOps P (ops.toList.map (·.dst)) (Q .normal) ops.toList E0 H0
  |some .any=>B4R P (Q .normal) ops E H
 | .seq a b,Q,E,H=>wp P Z a (fun x E H=>match x with| .normal=>wp P Z b Q E H| .exit i=>Q (.exit i) E H| .ret=>Q .ret E H) E H
 | .cond c x y,Q,E,H=>∃b,E.ev c= .bool b∧(b=true→wp P Z x Q (E.fix c true) H)∧(b=false→wp P Z y Q (E.fix c false) H)
 | .block id c,Q,E,H=>wp P Z c (fun x E H=>match x with| .normal=>Q .normal E H| .exit i=>if i=id then Q .normal E H else Q (.exit i) E H| .ret=>Q .ret E H) E H
 | .loop c,Q,E,H=>B23 (fun K=>wp P Z c fun x E H=>match x with| .normal=>K E H| .exit i=>Q (.exit i) E H| .ret=>Q .ret E H) E H
 | .exit id,Q,E,H=>Q (.exit id) E H
 | .ret,Q,E,H=>Q .ret E H
 | .scope c,Q,E,H=>wp P Z c Q E H
 | .label _,Q,E,H=>Q .normal E H
 |_,_,_,_=>False
def N6(P:Program)(Z:List (Nat×Rc))(N:Nat):Code→Bool
 | .region id ops d=>(ops.all fun o=>match o.dst with|some t=>decide (t<N)|none=>true)&&(match A0f id Z with|none=> !d||A4L P none ops|some (.rd sx)=> !d||A4L P (some sx) ops|some .par=>d&&B22 P ops|some (.ord perm)=>d&&B5o P ops perm|some .rg=> !d||A4L P (some true) ops|some .wk=> !d||A4L P none ops|some .any=>d)
 | .seq a b=>N6 P Z N a&&N6 P Z N b
 | .cond _ x y=>N6 P Z N x&&N6 P Z N y
 | .block _ c=>N6 P Z N c
 | .loop c=>N6 P Z N c
 | .scope c=>N6 P Z N c
 |_=>true
section
variable {P:Program} {Z:List (Nat×Rc)} {N:Nat} {w0:World} {H0:Heap}
theorem St.ev{E:Env}{H:Heap}{a:Act}{w:World}(h:St N w0 H0 E H a w)(x:Operand):R w H (E.ev x) (a.eval x):=by
 cases x with
 |tmp t=>exact h.env t
 |const v=>exact A2J w H v
 |global g=>exact .glob g
 |func f=>exact .fn _ _ _ _ _ rfl rfl (by simp) (by simp)
theorem St.put{E:Env}{H H':Heap}{a:Act}{w w':World}(h:St N w0 H0 E H a w){dst:Option Tmp}(hd: ∀t,dst=some t→t<N){d:D}{v:Value}(hv:R w' H' d v)(hs:Sat H' w')(he:Ext H w w')(m:From w H H'):
  St N w0 H0 (E.put dst d) H' (a.put dst v) w':=by
 refine⟨?_,?_,fun i=>?_,hs,h.ext.trans h.frm he,h.frm.trans h.ext.size m⟩
 ·cases dst<;>simp[Act.put,h.size]
 ·cases dst<;>exact h.defers
 ·cases dst with
  |none=>exact(h.env i).mono he m
  |some t=>
   have ht:=hd t rfl;simp only[Env.put,Env.get];by_cases j:t=i
   ·subst j;rw[if_pos rfl];have:(a.put (some t) v).eval (.tmp t)=v:=by
     have o:t<a.tmps.size:=by rw[h.size];exact ht
     simp[Act.eval,Act.put,o]
    rw[this];exact hv
   ·rw[if_neg j];have:(a.put (some t) v).eval (.tmp i)=a.eval (.tmp i):=by
     simp[Act.eval,Act.put,D1v j]
    rw[this];exact(h.env i).mono he m
theorem St.know{E:Env}{H:Heap}{a:Act}{w:World}(h:St N w0 H0 E H a w){s:Nat}{d:D}(hd:E.get s=d):St N w0 H0 ((s,d)::E) H a w:=by
 refine⟨h.size,h.defers,fun i=>?_,h.sat,h.ext,h.frm⟩;simp only[Env.get];by_cases j:s=i
 ·subst j;rw[if_pos rfl,←hd];exact h.env s
 ·rw[if_neg j];exact h.env i
theorem St.weak{E i:Env}{H H':Heap}{a:Act}{w:World}(h:St N w0 H0 E H a w)(hw:A1N i H' E H):St N w0 H0 i H' a w:=hw _ _ _ _ _ h
theorem A8e{E m:Env}{H H':Heap}(r: ∀p∈m,E.get p.1=p.2)(hl:H'.Le H):A1N m H' E H:=by
 intro N w0 H0 a w h;refine⟨h.size,h.defers,fun i=>?_,h.sat.less hl,h.ext,h.frm.less hl⟩;have key: ∀(L:Env),(∀p∈L,E.get p.1=p.2)→R w H' (L.get i) (a.eval (.tmp i)):=by
  intro L
  induction L with
  |nil=>intro _;exact .undef _
  |cons p L u=>
   intro o;obtain⟨j,d⟩:=p;simp only[Env.get];by_cases q:j=i
   ·subst q;rw[if_pos rfl];have:=o (j,d) (by simp);simp only at this;rw[←this];exact(h.env j).less hl
   ·rw[if_neg q];exact u (fun p hp=>o p (by simp[hp]))
 exact key m r
theorem A0S{ops:Array Oper}{K:Env→Heap→Prop}: ∀(l:List Oper) (E:Env) (H:Heap) (a:Act) (w:World),(∀o∈l,∀t,o.dst=some t→t<N)→wpOps P (ops.toList.map (·.dst)) K l E H→St N w0 H0 E H a w→
  wpA P none ops (fun a' w'=>∃p H',St N w0 H0 p H' a' w'∧K p H') l a w:=by
 intro l
 induction l with
 |nil=>intro E H a w _ h hst;exact⟨E,H,hst,h⟩
 |cons o l J=>
  intro E H a w hd h hst;have x: ∀o∈l,∀t,o.dst=some t→t<N:=fun o' z=>hd o' (by simp[z]);have y:=hd o (by simp);have run: ∀E,St N w0 H0 E H a w→C9 P E.ev H (fun d H'=>wpOps P (ops.toList.map (·.dst)) K l (E.put o.dst d) H') o.op→opSem P none o a w fun v w'=>wpA P none ops (fun a' w'=>∃p H',St N w0 H0 p H' a' w'∧K p H') l (a.put o.dst v) w':=by
   intro E hst h;refine(N5 hst.sat hst.ev h).mono fun v w' hp=>?_;obtain⟨d,H',h1,A,O,T,h5⟩:=hp;exact J _ _ _ _ x h5 (hst.put y h1 A O T)
  have skip: ∀E,St N w0 H0 E H a w→wpOps P (ops.toList.map (·.dst)) K l (E.put o.dst (.tuple [])) H→wpA P none ops (fun a' w'=>∃p H',St N w0 H0 p H' a' w'∧K p H') l (a.put o.dst undef) w:=
   fun E hst h=>J _ _ _ _ x h (hst.put y (.tuple [] #[] rfl (by simp)) hst.sat (D2p _ _) (D2o _ _))
  unfold wpOps at h;unfold wpA;split at h
  ·rename_i q;rw[if_pos (by simp[Region.wanted,q])];exact run E hst h
  ·rename_i j m q;have i:H7 (ops.toList.map (·.dst)) j=(ops[j]?).bind (·.dst):=by
    unfold H7;rw[D1e];cases M:ops[j]? with
    |none=>simp[M]
    |some o=>simp[M]
   unfold A1s at h;split at h
   ·rename_i hs;have r:yielded ops a.tmps j=none:=by
     unfold yielded;rw[i]at hs;rw[hs];rfl
    rw[if_neg (by simp[Region.wanted,q,r])];exact skip E hst h
   ·rename_i s hs;rcases h with⟨U,h⟩|⟨b,hb,h1,A⟩
    ·have hv:=hst.env s;rw[U]at hv;obtain⟨vs,hv,_⟩:=hv.tuple_inv;have r:yielded ops a.tmps j=none:=by
      unfold yielded;rw[i]at hs;rw[hs];simp only[D1l];simp only[Act.eval]at hv;cases ht:a.tmps[s]? with
      |none=>rfl
      |some u=>
       simp[ht]at hv;subst hv;rfl
     rw[if_neg (by simp[Region.wanted,q,r])];exact skip E hst h
    have hv:=hst.env s;rw[hb]at hv;have hv:=hv.bool_inv;have r:yielded ops a.tmps j=some b:=by
     unfold yielded;rw[i]at hs;rw[hs];simp only[D1l];simp only[Act.eval]at hv;cases ht:a.tmps[s]? with
     |none=>
      simp[ht]at hv;cases hv
     |some u=>
      simp[ht]at hv;subst hv;rfl
    by_cases G:b=m
    ·subst G;rw[if_pos (by simp[Region.wanted,q,r])];exact run _ (hst.know hb) (h1 rfl)
    ·have I:b= !m:=by cases b<;>cases m<;>simp_all
     subst I;rw[if_neg (by simp[Region.wanted,q,r])];exact skip _ (hst.know hb) (A rfl)
theorem A3T{ops:Array Oper}{bl:List Nat}{K:Env→Heap→Prop}: ∀(l:List Oper) (E:Env) (H:Heap) (a:Act) (w:World),(∀o∈l,∀t,o.dst=some t→t<N)→(∀k∈bl,k<w.heap.size)→Y5 P bl (ops.toList.map (·.dst)) K l E H→St N w0 H0 E H a w→
  wpA P (some (true,bl)) ops (fun a' w'=>∃p H',St N w0 H0 p H' a' w'∧K p H') l a w:=by
 intro l
 induction l with
 |nil=>intro E H a w _ _ h hst;exact⟨E,H,hst,h⟩
 |cons o l M=>
  intro E H a w hd q h hst;have y: ∀o∈l,∀t,o.dst=some t→t<N:=fun o' A=>hd o' (by simp[A]);have z:=hd o (by simp);have run: ∀E,St N w0 H0 E H a w→A5w P bl E.ev H (fun d H'=>Y5 P bl (ops.toList.map (·.dst)) K l (E.put o.dst d) H') o.op→opSem P (some (true,bl)) o a w fun v w'=>wpA P (some (true,bl)) ops (fun a' w'=>∃p H',St N w0 H0 p H' a' w'∧K p H') l (a.put o.dst v) w':=by
   intro E hst h;refine(A94 q hst.sat hst.ev h).mono fun v w' hp=>?_;obtain⟨d,H',h1,G,O,U,h5⟩:=hp;exact M _ _ _ _ y (fun k hk=>D2D (q k hk) O.size) h5 (hst.put z h1 G O U)
  have skip: ∀E,St N w0 H0 E H a w→Y5 P bl (ops.toList.map (·.dst)) K l (E.put o.dst (.tuple [])) H→wpA P (some (true,bl)) ops (fun a' w'=>∃p H',St N w0 H0 p H' a' w'∧K p H') l (a.put o.dst undef) w:=
   fun E hst h=>M _ _ _ _ y q h (hst.put z (.tuple [] #[] rfl (by simp)) hst.sat (D2p _ _) (D2o _ _))
  unfold Y5 at h;unfold wpA;split at h
  ·rename_i r;rw[if_pos (by simp[Region.wanted,r])];exact run E hst h
  ·rename_i j m r;have i:H7 (ops.toList.map (·.dst)) j=(ops[j]?).bind (·.dst):=by
    unfold H7;rw[D1e];cases T:ops[j]? with
    |none=>simp[T]
    |some o=>simp[T]
   unfold A1s at h;split at h
   ·rename_i hs;have x:yielded ops a.tmps j=none:=by
     unfold yielded;rw[i]at hs;rw[hs];rfl
    rw[if_neg (by simp[Region.wanted,r,x])];exact skip E hst h
   ·rename_i s hs;rcases h with⟨V,h⟩|⟨b,hb,h1,G⟩
    ·have hv:=hst.env s;rw[V]at hv;obtain⟨vs,hv,_⟩:=hv.tuple_inv;have x:yielded ops a.tmps j=none:=by
      unfold yielded;rw[i]at hs;rw[hs];simp only[D1l];simp only[Act.eval]at hv;cases ht:a.tmps[s]? with
      |none=>rfl
      |some u=>
       simp[ht]at hv;subst hv;rfl
     rw[if_neg (by simp[Region.wanted,r,x])];exact skip E hst h
    have hv:=hst.env s;rw[hb]at hv;have hv:=hv.bool_inv;have x:yielded ops a.tmps j=some b:=by
     unfold yielded;rw[i]at hs;rw[hs];simp only[D1l];simp only[Act.eval]at hv;cases ht:a.tmps[s]? with
     |none=>
      simp[ht]at hv;cases hv
     |some u=>
      simp[ht]at hv;subst hv;rfl
    by_cases I:b=m
    ·subst I;rw[if_pos (by simp[Region.wanted,r,x])];exact run _ (hst.know hb) (h1 rfl)
    ·have J:b= !m:=by cases b<;>cases m<;>simp_all
     subst J;rw[if_neg (by simp[Region.wanted,r,x])];exact skip _ (hst.know hb) (G rfl)
theorem A3U{ops:Array Oper}{sx:Bool}{bl:List Nat}{K:Env→Heap→Prop}: ∀(l:List Oper) (E:Env) (H:Heap) (a:Act) (w:World),(∀o∈l,∀t,o.dst=some t→t<N)→(∀k∈bl,k<w.heap.size)→A8d P sx bl K l E H→St N w0 H0 E H a w→
  wpA P (some (sx,bl)) ops (fun a' w'=>∃m H',St N w0 H0 m H' a' w'∧K m H') l a w:=by
 intro l
 induction l with
 |nil=>intro E H a w _ _ h hst;exact⟨E,H,hst,h⟩
 |cons o l q=>
  intro E H a w hd i h hst;obtain⟨r,h⟩:=h;unfold wpA;rw[if_pos (by simp[Region.wanted,r])];refine(A1p i hst.sat hst.ev h).mono fun v w' hp=>?_;obtain⟨d,H',h1,u,p,x,h5⟩:=hp;exact q _ _ _ _ (fun o' j=>hd o' (by simp[j])) (fun k hk=>D2D (i k hk) p.size) h5 (hst.put (hd o (by simp)) h1 u p x)
def lift(N:Nat)(w0:World)(H0:Heap)(Q:AX→Env→Heap→Prop):Exit→Act→World→Prop
 | .normal,a,w=>∃E H,St N w0 H0 E H a w∧Q .normal E H
 | .exit id,a,w=>∃E H,St N w0 H0 E H a w∧Q (.exit id) E H
 | .ret,a,w=>∃E H,St N w0 H0 E H a w∧Q .ret E H
 |_,_,_=>False
theorem B5u{c:Code}{Q:Exit→Act→World→Prop}(I:Nat→Act→World→Prop){n:Nat}{a:Act}{w:World}(r:I n a w)
  (i: ∀n a w,I n a w→c.wp P (Exit.then (fun a' w'=>∃m,m<n∧I m a' w') Q) a w):(Code.loop c).wp P Q a w:=by
 intro b k cs;have key: ∀n a w,I n a w→∃e a' w',Q e a' w'∧Arrives P (lone (b.at a (.code c:: .inLoop c::k)) cs w) b k cs e a' w':=by
  intro n
  induction n using Nat.strongRecOn with
  |_ n u=>
   intro a w y;obtain⟨e,a1,o,hq,h⟩:=i n a w y b (.inLoop c::k) cs;cases e with
   |normal=>
    obtain⟨m,hm,p⟩:=hq;obtain⟨e2,a2,z,q,j⟩:=u m hm a1 o p;exact⟨e2,a2,z,q,.of_steps (Steps.trans h (.one step_inLoop)) j⟩
   |exit id=>exact⟨_,a1,o,hq,.pass (x:=.inLoop c) rfl (fun _ _=>.inl (by simp)) h⟩
   |goto l=>exact⟨_,a1,o,hq,.pass (x:=.inLoop c) rfl (fun _ _=>.inl (by simp)) h⟩
   |ret=>exact⟨_,a1,o,hq,.pass (x:=.inLoop c) rfl (fun _ _=>.inl (by simp)) h⟩
   |panic A=>exact⟨_,a1,o,hq,.pass (x:=.inLoop c) rfl (fun _ _=>.inl (by simp)) h⟩
   |outgrown=>exact⟨_,a1,o,hq,.pass (x:=.inLoop c) rfl (fun _ _=>.inl (by simp)) h⟩
 obtain⟨e,a',w',hq,h⟩:=key n a w r;exact⟨e,a',w',hq,.of_steps (.one step_loop) h⟩
theorem z7(hm:P.follows .mixedOrders=true): ∀(c:Code) (Q:AX→Env→Heap→Prop) (E:Env) (H:Heap) (a:Act) (w:World),N6 P Z N c=true→wp P Z c Q E H→St N w0 H0 E H a w→c.wp P (lift N w0 H0 Q) a w:=by
  intro c
  induction c with
  |skip=>intro Q E H a w _ h hst;exact Go.wp_skip ⟨E,H,hst,h⟩
  |region id ops d=>
    intro Q E H a w j h hst;simp only[N6,D1U]at j
    have hd: ∀o∈ops.toList,∀t,o.dst=some t→t<N:=fun o ho t ht=>by
      have:=Array.all_eq_true_iff_forall_mem.1 j.1 o (by simpa using ho);rw[ht]at this;simpa using this
    have he:Ext H w {w with drawn:=w.drawn+1}:=Ext.drewN H w 1;have q:St N w0 H0 E H a {w with drawn:=w.drawn+1}:=⟨hst.size,hst.defers,fun i=>(hst.env i).mono he (D2o _ _),hst.sat.same rfl he,hst.ext.trans hst.frm he,hst.frm⟩
    unfold wp at h;cases hz:A0f id Z with
    |none=>
      rw[hz]at h j;cases d with
      |false=>exact y0 (fun a w h=>h) (A0S ops.toList E H a w hd h hst)
      |true=>exact A3R (F:=none) hm (by simpa using j.2) (fun a w h=>h) (A0S ops.toList E H a _ hd h q)
    |some rc=>
      rw[hz]at h j;cases rc with
      |par=>
        simp only[D1U]at j;obtain⟨_,z,A⟩:=j;subst z;obtain⟨cs,bs,a0,h⟩:=h;exact B5m hm A hd (fun E H a w W X Y k4 k5 k6 hk=>⟨E,H,⟨W,X,Y,k4,k5,k6⟩,hk⟩) hst.size hst.defers hst.env hst.sat hst.ext hst.frm a0 h
      |ord perm=>
        simp only[D1U]at j;obtain⟨_,z,A⟩:=j;subst z;obtain⟨bl,h⟩:=h;exact B5q hm A hd (fun E H a w W X Y k4 k5 k6 hk=>⟨E,H,⟨W,X,Y,k4,k5,k6⟩,hk⟩) hst.size hst.defers hst.env hst.sat hst.ext hst.frm h
      |any=>
        obtain⟨_,z⟩:=j;subst z;exact B4S hm hd (fun E H a w W X Y k4 k5 k6 hk=>⟨E,H,⟨W,X,Y,k4,k5,k6⟩,hk⟩) hst.size hst.defers hst.env hst.sat hst.ext hst.frm h
      |wk=>
        obtain⟨E0,Hh,J,h⟩:=h
        (cases d with
        |false=>exact y0 (fun a w h=>h) (A0S ops.toList E0 Hh a w hd h (hst.weak J))
        |true=>exact A3R (F:=none) hm (by simpa using j.2) (fun a w h=>h) (A0S ops.toList E0 Hh a _ hd h (q.weak J)))
      |rg=>
      obtain⟨bl,O,h⟩:=h
      have G: ∀w:World,Sat H w→∀k∈bl,k<w.heap.size:=fun w hs k hk=>by
        cases ho:H k with
        |none=>exact absurd ho (O k hk)
        |some o=>exact hs.lt ho
      (cases d with
      |false=>exact y0 (fun a w h=>h) (A3T (bl:=bl) ops.toList E H a w hd (G _ hst.sat) h hst)
      |true=>exact A3R (F:=some (true,bl)) hm (by simpa using j.2) (fun a w h=>h) (A3T (bl:=bl) ops.toList E H a _ hd (G _ q.sat) h q))
      |rd sx=>
      obtain⟨bl,O,h⟩:=h
      have G: ∀w:World,Sat H w→∀k∈bl,k<w.heap.size:=fun w hs k hk=>by
        cases ho:H k with
        |none=>exact absurd ho (O k hk)
        |some o=>exact hs.lt ho
      cases d with
      |false=>exact y0 (fun a w h=>h) (A3U (sx:=sx) (bl:=bl) ops.toList E H a w hd (G _ hst.sat) h hst)
      |true=>exact A3R (F:=some (sx,bl)) hm (by simpa using j.2) (fun a w h=>h) (A3U (sx:=sx) (bl:=bl) ops.toList E H a _ hd (G _ q.sat) h q)
  |seq x y T U=>
    intro Q E H a w j h hst;simp only[N6,D1U]at j;refine Go.wp_seq (Go.wp_mono (T _ E H a w j.1 h hst) fun e a' w' he=>?_);cases e with
    |normal=>obtain⟨u,H',p,r⟩:=he;exact U Q u H' a' w' j.2 r p
    |exit id=>obtain⟨u,H',p,r⟩:=he;exact⟨u,H',p,r⟩
    |ret=>obtain⟨u,H',p,r⟩:=he;exact⟨u,H',p,r⟩
    |_=>exact he.elim
  |cond c x y T U=>
    intro Q E H a w j h hst;simp only[N6,D1U]at j;obtain⟨b,hb,h1,h2⟩:=h;have hv:=hst.ev c;rw[hb]at hv
    have M: ∀b',E.ev c= .bool b'→St N w0 H0 (E.fix c b') H a w:=fun b' a6=>by
      cases c with
      |tmp t=>exact hst.know a6
      |_=>exact hst
    refine Go.wp_cond_split hv.bool_inv (fun ht=>?_) (fun ht=>?_)
    · subst ht;exact T Q _ H a w j.1 (h1 rfl) (M _ hb)
    · subst ht;exact U Q _ H a w j.2 (h2 rfl) (M _ hb)
  |block id c ih=>
    intro Q E H a w j h hst;simp only[N6]at j;refine Go.wp_block (Go.wp_mono (ih _ E H a w j h hst) fun e a' w' he=>?_);cases e with
    |normal=>obtain⟨u,H',p,r⟩:=he;exact⟨u,H',p,r⟩
    |exit i=>
      obtain⟨u,H',p,r⟩:=he;simp only[Exit.inBlock];by_cases hi:i=id
      · rw[if_pos hi];simp only[hi,if_true]at r;exact⟨u,H',p,r⟩
      · rw[if_neg hi];simp only[hi,if_false]at r;exact⟨u,H',p,r⟩
    |ret=>obtain⟨u,H',p,r⟩:=he;exact⟨u,H',p,r⟩
    |_=>exact he.elim
  |loop c ih=>
    intro Q E H a w j h hst;simp only[N6]at j;obtain⟨I,⟨n,E0,Hh,hw,hI⟩,V⟩:=h;refine B5u (fun n a w=>∃E H,St N w0 H0 E H a w∧I n E H) (n:=n) ⟨E0,Hh,hst.weak hw,hI⟩ fun n a w a9=>?_;obtain⟨E1,H1,q,b0⟩:=a9;refine Go.wp_mono (ih _ E1 H1 a w j (V n E1 H1 b0) q) fun e a' w' he=>?_;cases e with
    |normal=>
      obtain⟨u,H',p,m,E2,H2,b1,J,b2⟩:=he;exact⟨m,b1,E2,H2,p.weak J,b2⟩
    |exit id=>obtain⟨u,H',p,r⟩:=he;exact⟨u,H',p,r⟩
    |ret=>obtain⟨u,H',p,r⟩:=he;exact⟨u,H',p,r⟩
    |_=>exact he.elim
  |exit id=>intro Q E H a w _ h hst;exact Go.wp_exit ⟨E,H,hst,h⟩
  |ret=>intro Q E H a w _ h hst;exact Go.wp_ret ⟨E,H,hst,h⟩
  |scope c ih=>
    intro Q E H a w j h hst;simp only[N6]at j;refine Go.wp_scope_straight (Go.wp_mono (ih Q E H a w j h hst) fun e a' w' he=>?_);cases e with
    |goto l=>exact he.elim
    |_=>exact he
  |label l=>intro Q E H a w _ h hst;exact Go.wp_label ⟨E,H,hst,h⟩
  |_=>intro Q E H a w _ h _;exact h.elim
end
def A0T(P:Program)(E:Env)(H:Heap):ResultVar→Option D
 | .tmp t=>some (E.get t)
 | .cell a t=>y5 P t (E.get a) H
def A2x(P:Program)(rs:List ResultVar)(E:Env)(H:Heap):Option D:=(rs.mapM (A0T P E H)).map fun
 | [d]=>d
 |ds=>.tuple ds
def Shift(H:Heap)(d:D)(H':Heap)(d':D):Prop:=∀w v,R w H d v→Sat H w→R w H' d' v∧Sat H' w∧∀k,H.held k=false→H'.held k=false
theorem Shift.less{H H':Heap}(h:H'.Le H)(d:D):Shift H d H' d:=fun _ _ hr hs=>⟨hr.less h,hs.less h,fun _ hn=>h.held hn⟩
theorem Shift.trans{H H' j:Heap}{d d' m:D}(h:Shift H d H' d')(k:Shift H' d' j m):Shift H d j m:=fun w v hr hs=>
 let ⟨a,b,c⟩:=h w v hr hs;let ⟨e,f,g⟩:=k w v a b;⟨e,f,fun i o=>g i (c i o)⟩
def A8f(P:Program)(rs:List ResultVar)(Q:D→Heap→Prop):AX→Env→Heap→Prop
 | .exit _,_,_=>False
 |_,E,H=>∃r,A2x P rs E H=some r∧∃H' r',Shift H r H' r'∧Q r' H'
def V7:Nat→List D→Env
 |_,[]=>[]
 |i,d::ds=>(i,d)::V7 (i+1) ds
section
variable {P:Program}
theorem z8: ∀(ds:List D) (k i:Nat),(V7 k ds).get i=if k≤i then(ds[i-k]?).getD .undef else .undef
 | [],k,i=>by simp[V7,Env.get]
 |d::ds,k,i=>by
  simp only[V7,Env.get];by_cases j:k=i
  ·subst j;rw[if_pos rfl,if_pos (D1b _)];simp
  ·rw[if_neg j,z8 ds];by_cases h:k+1≤i
   ·rw[if_pos h,if_pos (by omega),show i-k=(i-(k+1))+1 by omega,D1n]
   ·rw[if_neg h,if_neg (by omega)]
theorem A2P{N:Nat}{w0:World}{H0:Heap}{E:Env}{H:Heap}{a:Act}{w:World}(hst:St N w0 H0 E H a w){fn:Func}{r:D}(h:A2x P fn.results.toList E H=some r):
  ∃v,(results fn a.tmps).run P w= .ok v w∧R w H r v:=by
 unfold A2x at h;obtain⟨ds,J,hr⟩:=D1Q.1 h;have key: ∀(q:List ResultVar) (ds:List D),q.mapM (A0T P E H)=some ds→∃vs:List Value,(q.mapM fun(x:ResultVar)=>match x with| .tmp t=>(pure (a.tmps.getD t undef):Sem Value)| .cell b t=>do loadVar t (←asAddr (a.tmps.getD b undef))).run P w= .ok vs w∧ds.length=vs.length∧∀(i:Nat) d,ds[i]? =some d→R w H d (vs.getD i Go.undef):=by
  intro q
  induction q with
  |nil=>intro ds h;simp at h;subst h;exact⟨[],rfl,rfl,by simp⟩
  |cons x q W=>
   intro ds h;simp only[List.mapM_cons,Option.bind_eq_bind,D1T,Option.pure_def]at h;obtain⟨X,I,Y,h1,h2⟩:=h;cases h2;obtain⟨vs,m,hl,j⟩:=W Y h1;have one: ∃v,(match x with| .tmp t=>(pure (a.tmps.getD t undef):Sem Value)| .cell b t=>do loadVar t (←asAddr (a.tmps.getD b undef))).run P w= .ok v w∧R w H X v:=by
    cases x with
    |tmp t=>
     simp only[A0T,D1t]at I;subst I;exact⟨_,rfl,hst.env t⟩
    |cell b t=>
     simp only[A0T]at I;obtain⟨u,p,M⟩:=A5x (P:=P) hst.sat I (hst.env b);refine⟨u,?_,M⟩;unfold Instr.loadAt at p;simp only[Act.eval]at p;have O: ∀(z:Value) (A:Addr) (w:World),(Instr.sureAddr z).run P w= .ok A w→(asAddr z).run P w= .ok A w:=by
      intro z A w T;cases z with
      |pointer o=>
       cases o with
       |none=>exact absurd T (by simp[Instr.sureAddr,stuck])
       |some y=>exact T
      |_=>exact absurd T (by simp[Instr.sureAddr,stuck])
     rw[Sem.run_bind]at p⊢;cases hs:(Instr.sureAddr (a.tmps.getD b undef)).run P w with
     |ok A w'=>
      have U:w'=w:=by
       unfold Instr.sureAddr at hs;split at hs
       ·cases hs;rfl
       ·cases hs
      subst U;rw[hs]at p;rw[O _ _ _ hs];exact p
     |halt x w'=>rw[hs]at p;cases p
   obtain⟨v,hv,V⟩:=one;refine⟨v::vs,?_,by simp[hl],fun i d hd=>?_⟩
   ·rw[List.mapM_cons,Sem.run_bind,hv];simp only[Result.andThen_ok];rw[Sem.run_bind,m];rfl
   ·cases i with
    |zero=>simp at hd;subst hd;simpa using V
    |succ i=>simp at hd;simpa using j i d hd
 obtain⟨vs,m,hl,j⟩:=key _ _ J;have G:(results fn a.tmps).run P w= .ok (if h:vs.toArray.size=1 then vs.toArray[0]else .tuple vs.toArray) w:=by
  unfold results;rw[Sem.run_bind,Array.mapM_eq_mapM_toList];simp only[Functor.map];rw[Sem.run_bind'];exact congrArg (fun r:Result (List Value)=>(r.andThen fun a w'=>Sem.run P ((Sem.pure ∘ List.toArray) a) w').andThen fun a w'=>Sem.run P (pure (if h:a.size=1 then a[0]else Value.tuple a)) w') m
 refine⟨_,G,?_⟩
 match ds,vs,hl,hr,j with
 | [d],[v],_,hr,j=>simp only at hr;subst hr;simpa using j 0 d rfl
 | [],[],_,hr,j=>simp only at hr;subst hr;exact .tuple _ _ rfl (by simp)
 |d1::d2::ds,v1::v2::vs,hl,hr,j=>
  simp only at hr;subst hr;rw[dif_neg (by simp)];exact .tuple _ _ (by simpa using hl) (fun i d hd=>by simpa using j i d hd)
theorem A8g{f:Nat}(Z:List (Nat×Rc)){fn:Func}{c:Code}{args:List D}{H:Heap}{Q:D→Heap→Prop}(hm:P.follows .mixedOrders=true)(I:P.funcs[f]? =some fn)(hb:fn.body=some c)(p:A1n P f=true)(hn:args.length≤fn.ntmps)
  (q:N6 P Z fn.ntmps c=true) (h:wp P Z c (A8f P fn.results.toList Q) (V7 0 args) H):ACalls P f args H Q:=by
 refine⟨p,fun w vs hl J hs=>calls_of_wp I hb ?_⟩;have hst:St fn.ntmps w H (V7 0 args) H {tmps:=vs++Array.replicate (fn.ntmps-vs.size) undef,defers:=[]} w:=by
  refine⟨by simp;omega,rfl,fun i=>?_,hs,D2p _ _,D2o _ _⟩;rw[z8,if_pos (D1c _),Nat.sub_zero];cases A:args[i]? with
  |none=>exact .undef _
  |some d=>
   have M:=(D1R.1 A).1;have:({tmps:=vs++Array.replicate (fn.ntmps-vs.size) undef,defers:=[]}:Act).eval (.tmp i)=vs.getD i undef:=by
    simp only[Act.eval];exact G3 (by omega)
   rw[this];exact J i d A
 have fin: ∀(x:AX) (E:Env) (H':Heap) (a:Act) (w':World),(x= .normal∨x= .ret)→St fn.ntmps w H E H' a w'→A8f P fn.results.toList Q x E H'→
   a.defers= []∧∃v,(results fn a.tmps).run P w'= .ok v w'∧∃G,Ending.returned v= .returned G∧Post H w Q G w':=by
  intro x E H' a w' hx j hq;have u: ∃r,A2x P fn.results.toList E H'=some r∧∃m o,Shift H' r m o∧Q o m:=by rcases hx with rfl|rfl<;>exact hq
  obtain⟨r,hr,m,o,y,O⟩:=u;obtain⟨v,hv,z⟩:=A2P (P:=P) j hr;obtain⟨T,U,V⟩:=y _ _ z j.sat;exact⟨j.defers,v,hv,v,rfl,o,m,T,U,j.ext,fun k hk hn=>V k (j.frm k hk hn),O⟩
 refine Go.wp_mono (z7 hm c _ _ _ _ _ q h hst) fun e a w' he=>?_;cases e with
 |normal=>obtain⟨E,H',j,hq⟩:=he;exact fin .normal E H' a w' (.inl rfl) j hq
 |ret=>obtain⟨E,H',j,hq⟩:=he;exact fin .ret E H' a w' (.inr rfl) j hq
 |exit id=>obtain⟨E,H',j,hq⟩:=he;exact hq.elim
 |_=>exact he.elim
theorem A9{f:Nat}(Z:List (Nat×Rc)){fn:Func}{c:Code}{args:List D}{H:Heap}{Q:D→Heap→Prop}(hm:P.follows .mixedOrders=true)(m:P.funcs[f]? =some fn)(hb:fn.body=some c)
  (h:wp P Z c (A8f P fn.results.toList Q) (V7 0 args) H) (i:A1n P f=true:=by kernel_rfl) (hn:args.length≤fn.ntmps:=by exact D1I (by kernel_rfl)) (j:N6 P Z fn.ntmps c=true:=by kernel_rfl):ACalls P f args H Q:=A8g Z hm m hb i hn j h
theorem ACalls.shift{f:Nat}{args args':List D}{H H':Heap}{Q:D→Heap→Prop}(hs: ∀w (vs:Array Value),args.length=vs.size→(∀(i:Nat) d,args[i]? =some d→R w H d (vs.getD i Go.undef))→Sat H w→
  args'.length=vs.size∧(∀(i:Nat) d,args'[i]? =some d→R w H' d (vs.getD i Go.undef))∧Sat H' w∧∀k,H.held k=false→H'.held k=false) (h:ACalls P f args' H' Q):ACalls P f args H Q:=by
 refine⟨h.1,fun w vs h1 o p=>?_⟩;obtain⟨q,r,u,m⟩:=hs w vs h1 o p;refine(h.2 w vs q r u).mono fun e w' ⟨v,he,d,x,y,z,j,A,G⟩=>⟨v,he,d,x,y,z,⟨j.os,j.tape,j.output,j.size,fun k hk hn=>j.block k hk (m k hn),j.shape⟩,fun k hk hn=>A k hk (m k hn),G⟩
theorem E6(H:Heap)(b:Nat):(H.del b).Le H:=fun k o h=>by
 unfold Heap.del at h;split at h
 ·cases h
 ·exact h
theorem A6E{w:World}{H:Heap}{b sz lo n:Nat}{es:List (List D)}{v:Value}(hr:R w H (.vec b sz lo n) v)(hs:Sat H w)(hb:H b=some (.vec sz es))(hn:lo+n≤es.length):
  R w (H.del b) (.sl sz ((es.drop lo).take n)) v:=by
 have q:=hs.lt hb;obtain⟨c,T,x,y,h1,I,J,p⟩:=A2K (hs b _ hb);cases hr with
 |vec0 b sz lo off=>rw[List.take_zero];exact .sl0 _ _ _
 |vec b sz lo n cap T m z A hsz r=>
 have hlen:((es.drop lo).take n).length=n:=by simp;omega
 have h: ∀(i:Nat) (e:List D),((es.drop lo).take n)[i]? =some e→i<n∧es[lo+i]? =some e:=fun i e he=>by
  have o:=(D1R.1 he).1;rw[hlen]at o;rw[List.getElem?_take_of_lt o,List.getElem?_drop]at he;exact⟨o,he⟩
 have u:=R.sl (w:=w) (H:=H.del b) sz ((es.drop lo).take n) b (lo*sz) cap (fun i j=>c.getD ((lo+i)*sz+j) Go.undef) q (G7 (by simp[Heap.del]))
  (fun i e he=>p.each _ _ (h i e he).2) (by rw[hlen];exact r) (fun i j o M=>?_) (fun i e j d he hd=>p.one _ _ _ _ (h i e he).2 hd)
  (fun i e j d he hd=>(p.rel _ _ _ _ (h i e he).2 hd).less (E6 H b))
 ·rw[hlen]at u;exact u
 ·rw[hlen]at o;have e1:lo*sz+i*sz+j=(lo+i)*sz+j:=by rw[Nat.add_mul]
  rw[e1,R3 h1];have h5:(lo+i+1)*sz≤es.length*sz:=D1x _ (by omega);rw[Nat.add_mul (lo+i),Nat.one_mul]at h5;have O:=p.le;have G:(lo+i)*sz+j<c.size:=by omega
  simp[G]
inductive Fz(b sz:Nat)(es:List (List D)):D→D→Prop
 |same (d:D):Fz b sz es d d
 |nil (sz':Nat):Fz b sz es .nilsl (.sl sz' [])
 |vec (lo n:Nat) (h:lo+n≤es.length):Fz b sz es (.vec b sz lo n) (.sl sz ((es.drop lo).take n))
 |all:Fz b sz es (.vec b sz 0 es.length) (.sl sz es)
 |tuple (ds ds':List D) (hl:ds.length=ds'.length) (h: ∀(i:Nat) d d',ds[i]? =some d→ds'[i]? =some d'→Fz b sz es d d'):Fz b sz es (.tuple ds) (.tuple ds')
theorem Fz.R{w:World}{H:Heap}{b sz:Nat}{es:List (List D)}(hs:Sat H w)(hb:H b=some (.vec sz es)){d d':D}(h:Fz b sz es d d'): ∀{v:Value},R w H d v→R w (H.del b) d' v:=by
 induction h with
 |same d=>exact fun hr=>hr.less (E6 H b)
 |nil sz'=>intro v hr;cases hr;exact .sl0 _ _ _
 |vec lo n h=>exact fun hr=>A6E hr hs hb h
 |all=>intro v hr;have:=A6E hr hs hb (by omega);rwa [List.drop_zero,List.take_length]at this
 |tuple ds ds' hl h o=>
  intro v hr;obtain⟨vs,rfl,p,m⟩:=hr.tuple_inv;refine .tuple _ _ (by omega) fun i d' j=>?_;have q:=(D1R.1 j).1;have hd:ds[i]? =some (ds[i]'(by omega)):=D1Y _;exact o i _ _ hd j (m i _ hd)
theorem Fz.one{b sz:Nat}{es:List (List D)}{d d':D}(h:Fz b sz es d d')(h1:d.one=true):d'.one=true:=by
 cases h with
 |same=>exact h1
 |nil=>rfl
 |vec=>rfl
 |all=>rfl
 |tuple=>cases h1
inductive OFz(b sz:Nat)(es:List (List D)):Obj→Obj→Prop
 |same (o:Obj):OFz b sz es o o
 |box (cs cs':List D) (Z:Option TypeId) (hl:cs.length=cs'.length) (h: ∀(i:Nat) d d',cs[i]? =some d→cs'[i]? =some d'→Fz b sz es d d'):OFz b sz es (.box cs Z) (.box cs' Z)
 |vec (s:Nat) (xs xs':List (List D)) (hl:xs.length=xs'.length) (h: ∀(i:Nat) x x',xs[i]? =some x→xs'[i]? =some x'→x.length=x'.length∧∀(j:Nat) d d',x[j]? =some d→x'[j]? =some d'→Fz b sz es d d'):OFz b sz es (.vec s xs) (.vec s xs')
theorem A40{E G:Env}{H H':Heap}{b sz:Nat}{es:List (List D)}(hb:H b=some (.vec sz es))(hE: ∀p∈G,Fz b sz es (E.get p.1) p.2)
  (I: ∀k o',H' k=some o'→k≠b∧∃o,H k=some o∧OFz b sz es o o'):A1N G H' E H:=by
 intro N w0 Hz a w hst;have hs:=hst.sat;have h: ∀k,H.held k=false→H'.held k=false:=fun k hk=>by
  cases ho:H' k with
  |none=>exact G7 ho
  |some o'=>
   obtain⟨_,o,h1,J⟩:=I k o' ho;rw[I1 h1]at hk;rw[I1 ho];cases J<;>exact hk
 have M: ∀{d d':D} {v:Value},Fz b sz es d d'→R w H d v→R w H' d' v:=fun x hr=>(x.R hs hb hr).mono (D2p _ _) fun k _ hk=>by
  by_cases y:k=b
  ·subst y;cases ho:H' k with
   |none=>exact G7 ho
   |some o'=>exact absurd rfl (I k o' ho).1
  ·refine h k ?_;rw[←l9 (H:=H) (H':=H.del b) (k:=k) (by unfold Heap.del;rw[if_neg y])];exact hk
 refine⟨hst.size,hst.defers,fun i=>?_,fun k o' ho=>?_,hst.ext,fun k hk hn=>h k (hst.frm k hk hn)⟩
 ·have key: ∀(L:Env),(∀p∈L,Fz b sz es (E.get p.1) p.2)→R w H' (L.get i) (a.eval (.tmp i)):=by
   intro L
   induction L with
   |nil=>intro _;exact .undef _
   |cons p L ih=>
    intro Y;obtain⟨j,d⟩:=p;simp only[Env.get];by_cases z:j=i
    ·subst z;rw[if_pos rfl];exact M (Y (j,d) (by simp)) (hst.env j)
    ·rw[if_neg z];exact ih (fun p hp=>Y p (by simp[hp]))
  exact key G hE
 ·obtain⟨_,o,h1,J⟩:=I k o' ho;have u:=hs k o h1;cases J with
  |same=>exact u.mono (D2p H w) (fun k _ hk=>h k hk) rfl
  |box cs cs' Z hl x=>
   obtain⟨c,T,lo,O,U,V,k3,A,W⟩:=u;refine⟨c,T,lo,O,U,V,by omega,fun j d' m=>?_,W⟩;have z:=(D1R.1 m).1;have hd:cs[j]? =some (cs[j]'(by omega)):=D1Y _;have r:=x j _ _ hd m;exact⟨r.one (A j _ hd).1,M r (A j _ hd).2⟩
  |vec s xs xs' hl x=>
   obtain⟨c,T,lo,O,U,V,k3,A,W,k6⟩:=u;refine⟨c,T,lo,O,U,V,k3,by rw[←hl];exact A,fun i x' q=>?_,fun i x' j d' q m=>?_⟩
   ·have X:=(D1R.1 q).1;have hx:xs[i]? =some (xs[i]'(by omega)):=D1Y _;rw[←(x i _ _ hx q).1];exact W i _ hx
   ·have X:=(D1R.1 q).1;have hx:xs[i]? =some (xs[i]'(by omega)):=D1Y _;obtain⟨hlen,r⟩:=x i _ _ hx q;have z:=(D1R.1 m).1;have hd:(xs[i]'(by omega))[j]? =some ((xs[i]'(by omega))[j]'(by omega)):=D1Y _;have hz:=r j _ _ hd m;exact⟨hz.one (k6 i _ j _ hx hd).1,M hz (k6 i _ j _ hx hd).2⟩
theorem Shift.freeze{H:Heap}{b sz:Nat}{es:List (List D)}(hb:H b=some (.vec sz es)){d d':D}(h:Fz b sz es d d'):Shift H d (H.del b) d':=fun w v hr hs=>
 ⟨h.R hs hb hr,hs.less (E6 H b),fun _ hn=>(E6 H b).held hn⟩
theorem ACalls.freeze{f:Nat}{args args':List D}{H:Heap}{Q:D→Heap→Prop}{b sz:Nat}{es:List (List D)}(hb:H b=some (.vec sz es))(hl:args.length=args'.length)(o: ∀(i:Nat) d d',args[i]? =some d→args'[i]? =some d'→Fz b sz es d d')
  (h:ACalls P f args' (H.del b) Q):ACalls P f args H Q:=
 h.shift fun w vs h1 p m=>⟨by omega,fun i d' j=>by
  have q:=(D1R.1 j).1;have hd:args[i]? =some (args[i]'(by omega)):=D1Y _;exact(o i _ _ hd j).R m hb (p i _ hd),m.less (E6 H b),fun _ hn=>(E6 H b).held hn⟩
theorem R.nil_sl{w:World}{H:Heap}{v:Value}(sz:Nat)(h:R w H .nilsl v):R w H (.sl sz []) v:=by cases h;exact .sl0 _ _ _
theorem B1a{f:Nat}{H:Heap}{Q:D→Heap→Prop}(sz:Nat)(h:ACalls P f [.sl sz []] H Q):ACalls P f [.nilsl] H Q:=
 ACalls.shift (args':=[.sl sz []]) (fun w vs h1 j m=>⟨h1,fun i d hd=>by
  match i,hd with
  |0,hd=>simp at hd;subst hd;exact(j 0 _ rfl).nil_sl sz
  |i+1,hd=>simp at hd,m,fun _ hn=>hn⟩) h
theorem A0b{f:Nat}{a:D}{H:Heap}{Q:D→Heap→Prop}(sz:Nat)(h:ACalls P f [a,.sl sz []] H Q):ACalls P f [a,.nilsl] H Q:=
 ACalls.shift (args':=[a,.sl sz []]) (fun w vs h1 j m=>⟨h1,fun i d hd=>by
  match i,hd with
  |0,hd=>simp at hd;subst hd;exact j 0 _ rfl
  |1,hd=>simp at hd;subst hd;exact(j 1 _ rfl).nil_sl sz
  |i+2,hd=>simp at hd,m,fun _ hn=>hn⟩) h
end
def B(s:ByteArray):List UInt8:=s.data.toList
@[simp] theorem a7(s:ByteArray):(B s).length=s.size:=by simp[B]
theorem l7{s t:ByteArray}(h:B s=B t):s=t:=by
 apply ByteArray.ext;unfold B at h;exact Array.toList_inj.1 h
def S(l:List UInt8):ByteArray:=⟨l.toArray⟩
@[go_sem] theorem v8(l:List UInt8):B (S l)=l:=by simp[B,S]
theorem S_B(s:ByteArray):S (B s)=s:=l7 (v8 _)
@[go_sem] theorem O6(l:List UInt8):(S l).size=l.length:=by rw[←a7,v8]
theorem C6B{l m:List UInt8}(h:S l=S m):l=m:=by rw[←v8 l,h,v8]
@[go_sem] theorem D0v(l:List UInt8):B (ByteArray.mk l.toArray)=l:=v8 l
@[go_sem] theorem A0A(x y:ByteArray):B (x++y)=B x++B y:=by simp[B,ByteArray.data_append]
attribute [go_sem] a7
theorem A4P(s:ByteArray)(l h:Nat):s.extract l h=S (((B s).take h).drop l):=by
 apply l7;rw[v8];simp[B,ByteArray.data_extract,List.extract_eq_take_drop];rw[List.drop_take]
theorem A0U(l:List UInt8):B ⟨l.toArray⟩=l:=by simp[B]
def B9G(P:Program)(Z:List (Nat×Rc))(b:Code)(Q:AX→Env→Heap→Prop):AX→Env→Heap→Prop
 | .normal,E,H=>wp P Z b Q E H
 | .exit i,E,H=>Q (.exit i) E H
 | .ret,E,H=>Q .ret E H
def A8h(id:Nat)(Q:AX→Env→Heap→Prop):AX→Env→Heap→Prop
 | .normal,E,H=>Q .normal E H
 | .exit i,E,H=>if i=id then Q .normal E H else Q (.exit i) E H
 | .ret,E,H=>Q .ret E H
def A6F(Q:AX→Env→Heap→Prop)(K:Env→Heap→Prop):AX→Env→Heap→Prop
 | .normal,E,H=>K E H
 | .exit i,E,H=>Q (.exit i) E H
 | .ret,E,H=>Q .ret E H
def B24(Q:AX→Env→Heap→Prop):Env→Heap→Prop:=fun E H=>Q .normal E H
def B5v(P:Program)(Z:List (Nat×Rc))(c:Code)(Q:AX→Env→Heap→Prop)(E:Env)(H:Heap):Prop:=B23 (fun K=>wp P Z c (A6F Q K)) E H
def opK(P:Program)(gs:List (Option Nat))(K:Env→Heap→Prop)(l:List Oper)(dst:Option Nat)(E:Env):D→Heap→Prop:=fun d H=>wpOps P gs K l (E.put dst d) H
def R7(o:Option D)(K:D→Heap→Prop)(H:Heap):Prop:=∃d,o=some d∧K d H
def B0F(o:Option Heap)(K:D→Heap→Prop):Prop:=∃H',o=some H'∧K .undef H'
def B0G(P:Program)(Z:List (Nat×Rc))(c:Operand)(d:D)(x y:Code)(Q:AX→Env→Heap→Prop)(E:Env)(H:Heap):Prop:=∃b,d= .bool b∧(b=true→wp P Z x Q (E.fix c true) H)∧(b=false→wp P Z y Q (E.fix c false) H)
def A0g(P:Program)(gs:List (Option Nat))(K:Env→Heap→Prop)(l:List Oper)(dst:Option Nat)(op:Op)(s:Nat)(d:D)(want:Bool)(E:Env)(H:Heap):Prop:=
 (d= .tuple []∧wpOps P gs K l (E.put dst (.tuple [])) H)∨
 ∃b,d= .bool b∧(b=want→C9 P (Env.ev ((s,.bool want)::E)) H (opK P gs K l dst ((s,.bool want)::E)) op)∧(b= !want→wpOps P gs K l (Env.put ((s,.bool (!want))::E) dst (.tuple [])) H)
def B10(P:Program)(gs:List (Option Nat))(K:Env→Heap→Prop)(l:List Oper)(dst:Option Nat)(op:Op)(s:Option Nat)(want:Bool)(E:Env)(H:Heap):Prop:=match s with
 |none=>wpOps P gs K l (E.put dst (.tuple [])) H
 |some s=>A0g P gs K l dst op s (E.get s) want E H
def B5w(P:Program)(f:D)(args:List D)(H:Heap)(K:D→Heap→Prop):Prop:=match f with
 | .fn (.func g) first captured=>ACalls P g (first++args++captured) H K
 |_=>False
def Fin(Q:D→Heap→Prop)(d:D)(H:Heap):Prop:=∃H' d',Shift H d H' d'∧Q d' H'
def B9H(o:Option D)(Q:D→Heap→Prop)(H:Heap):Prop:=∃r,o=some r∧Fin Q r H
theorem Fin.less{Q:D→Heap→Prop}{d:D}{H H':Heap}(hl:H'.Le H)(h:Q d H'):Fin Q d H:=⟨H',d,.less hl d,h⟩
theorem D2j:type_of% @Fin.less:=@Fin.less
theorem Fin.same{Q:D→Heap→Prop}{d:D}{H:Heap}(h:Q d H):Fin Q d H:=⟨H,d,.less (D2i H) d,h⟩
theorem D2m:type_of% @Fin.same:=@Fin.same
theorem Fin.freeze{Q:D→Heap→Prop}{d d':D}{H:Heap}{b sz:Nat}{es:List (List D)}(hb:H b=some (.vec sz es))(i:Fz b sz es d d')(h:Fin Q d' (H.del b)):Fin Q d H:=
 let ⟨H',e,h1,h2⟩:=h;⟨H',e,(Shift.freeze hb i).trans h1,h2⟩
theorem Fin.then{Q:D→Heap→Prop}{d:D}{H H':Heap}(hl:H'.Le H)(h:Fin Q d H'):Fin Q d H:=
 let ⟨H1,e,h1,h2⟩:=h;⟨H1,e,(Shift.less hl d).trans h1,h2⟩
theorem B2s{Q:D→Heap→Prop}{ds:List D}{H:Heap}{b sz n:Nat}{es:List (List D)}(hb:H b=some (.vec sz es))(hn:n=es.length)(h:Fin Q (.tuple (.sl sz es::ds)) (H.del b)):Fin Q (.tuple (.vec b sz 0 n::ds)) H:=by
 subst hn;refine Fin.freeze hb (.tuple _ _ (by simp) fun i d d' h1 j=>?_) h;cases i with
 |zero=>simp at h1 j;subst h1;subst j;exact .all
 |succ i=>simp at h1 j;rw[h1]at j;cases j;exact .same _
theorem Fin.nilsl{Q:D→Heap→Prop}{H:Heap}(sz:Nat)(ds:List D)(h:Fin Q (.tuple (.sl sz []::ds)) H):Fin Q (.tuple (.nilsl::ds)) H:=
 let ⟨H1,e,h1,h2⟩:=h;⟨H1,e,Shift.trans (fun w v hr hs=>⟨by
  obtain⟨vs,rfl,hl,j⟩:=hr.tuple_inv;refine .tuple _ _ (by simpa using hl) fun i d hd=>?_;cases i with
  |zero=>simp at hd;subst hd;have:=j 0 _ rfl;generalize vs.getD 0 Go.undef=u at this;cases this;exact .sl0 _ _ _
  |succ i=>exact j (i+1) d (by simpa using hd),hs,fun _ hn=>hn⟩) h1,h2⟩
theorem B0H{P:Program}{t:Nat}{k:IntKind}(h:P.underlying t=some (.int k)):C7 P t= .int:=by unfold C7;rw[h]
section
variable {P:Program} {Z:List (Nat×Rc)} {Q:AX→Env→Heap→Prop} {E:Env} {H:Heap} {K:Env→Heap→Prop} {gs:List (Option Nat)} {l:List Oper} {KD:D→Heap→Prop} {ev:Operand→D} {bl:List Nat}
@[go_sem] theorem C7p:wp P Z .skip Q E H=Q .normal E H:=rfl
def A3V(P:Program)(gs:List (Option Nat))(ops:List Oper)(K:Env→Heap→Prop)(E:Env)(H:Heap):Option Rc→Prop
 |none=>wpOps P gs K ops E H
 |some (.rd sx)=>∃bl,(∀k∈bl,H k≠none)∧A8d P sx bl K ops E H
 |some .par=>∃(cs:Nat→CR) (bs:Nat→Bl),B4L bs 0 ops∧wpP P gs cs bs K 0 ops E H
 |some (.ord perm)=>∃bl:List Nat,wpG P bl K (perm.map (A1u ops)) E H
 |some .rg=>∃bl,(∀k∈bl,H k≠none)∧Y5 P bl gs K ops E H
 |some .wk=>∃E0 H0,A1N E0 H0 E H∧wpOps P gs K ops E0 H0
 |some .any=>B4R P K ops.toArray E H
@[go_sem] theorem C46(id:Nat)(l:List Oper)(d:Bool):wp P Z (.region id l.toArray d) Q E H=A3V P (l.map (·.dst)) l (B24 Q) E H (A0f id Z):=by
 show (match A0f id Z with|none=>_|some (.rd sx)=>_|some .par=>_|some (.ord perm)=>_|some .rg=>_|some .wk=>_|some .any=>_)=_;unfold A3V;cases A0f id Z with
 |none=>rfl
 |some r=>cases r<;>rfl
@[go_sem] theorem C20(id:Nat):A0f id []=none:=rfl
@[go_sem] theorem C1j(id i:Nat)(sx:Rc)(Z:List (Nat×Rc)):A0f id ((i,sx)::Z)=if id=i then some sx else A0f id Z:=rfl
@[go_sem] theorem C21(h:List (Option Nat))(ops:List Oper):A3V P h ops K E H none=wpOps P h K ops E H:=rfl
theorem F9{j:List (Option Nat)}{ops:List Oper}(cs:Nat→D)(bl:List Nat)(h:wpP P j (fun i=>.c (cs i)) (fun _=>⟨bl,[],[]⟩) K 0 ops E H):A3V P j ops K E H (some .par):=⟨_,_,A2v bl _ _,h⟩
theorem B25{i:List (Option Nat)}{ops:List Oper}(cs:Nat→CR)(bl:List Nat)(h:wpP P i cs (fun _=>⟨bl,[],[]⟩) K 0 ops E H):A3V P i ops K E H (some .par):=⟨cs,_,A2v bl _ _,h⟩
theorem C22{i:List (Option Nat)}{ops:List Oper}(h:B4R P K ops.toArray E H):A3V P i ops K E H (some .any):=h
theorem B11{i:List (Option Nat)}{ops:List Oper}{perm:List Nat}(bl:List Nat)(h:wpG P bl K (perm.map (A1u ops)) E H):A3V P i ops K E H (some (.ord perm)):=⟨bl,h⟩
def gK(P:Program)(bl:List Nat)(K:Env→Heap→Prop)(l:List (Option Oper))(dst:Option Nat)(E:Env)(H:Heap):D→Heap→Prop:=fun d H'=>(l= []∨∀k∈bl,H' k=H k)∧wpG P bl K l (E.put dst d) H'
@[go_sem] theorem C7q(bl:List Nat)(K:Env→Heap→Prop)(dst:Option Nat)(E:Env)(H H':Heap)(d:D):gK P bl K [] dst E H d H'=wpG P bl K [] (E.put dst d) H':=propext ⟨fun h=>h.2,fun h=>⟨.inl rfl,h⟩⟩
@[go_sem] theorem C8m(bl:List Nat)(K:Env→Heap→Prop)(o:Option Oper)(l:List (Option Oper))(dst:Option Nat)(E:Env)(H H':Heap)(d:D):gK P bl K (o::l) dst E H d H'=((∀k∈bl,H' k=H k)∧wpG P bl K (o::l) (E.put dst d) H'):=propext ⟨fun h=>⟨h.1.resolve_left (by simp),h.2⟩,fun h=>⟨.inr h.1,h.2⟩⟩
@[go_sem] theorem D0A(bl:List Nat):wpG P bl K [] E H=K E H:=rfl
@[go_sem] theorem C8n(bl:List Nat)(l:List (Option Oper))(dst:Option Nat)(t:Nat)(x:Operand)(ty:Nat)(pos:String)(after:Array Edge)(h:Option (Nat×Bool)):
  wpG P bl K (some ⟨dst,.load t x,ty,pos,after,h⟩::l) E H=((∀b∈rdB (E.ev x),b∈bl)∧C9 P E.ev H (gK P bl K l dst E H) (.load t x)):=by
 show ((I4 P (.load t x)= .load→_)∧_)=_;simp only[I4,true_implies,B5n];rfl
def B26:Op→Bool
 | .load .. =>false
 |_=>true
theorem B5x{op:Op}(h:I4 P op= .load):B26 op=false:=by
 cases op
 case load=>rfl
 case convert s t x=>simp only[I4]at h;split at h<;>cases h
 case call cc=>
  obtain⟨c,i,j⟩:=cc;cases c with
  |builtin b=>
   cases b<;>simp only[I4]at h<;>first|cases h|(split at h<;>cases h)
  |_=>simp[I4]at h
 all_goals (simp[I4]at h)
theorem B9I(bl:List Nat)(l:List (Option Oper))(dst:Option Nat)(op:Op)(ty:Nat)(pos:String)(after:Array Edge)(i:Option (Nat×Bool))(h:B26 op=true):
  wpG P bl K (some ⟨dst,op,ty,pos,after,i⟩::l) E H=C9 P E.ev H (gK P bl K l dst E H) op:=by
 have hc:I4 P op≠ .load:=fun g=>by rw[B5x g]at h;cases h
 show ((I4 P op= .load→_)∧_)=_;simp only[hc,false_implies,true_and];rfl
@[go_sem] theorem D0w(t:Nat)(x:Operand)(f:Nat)(bl:List Nat)(l:List (Option Oper))(dst:Option Nat)(ty:Nat)(pos:String)(after:Array Edge)(h:Option (Nat×Bool)):wpG P bl K (some ⟨dst,.fieldAddr t x f,ty,pos,after,h⟩::l) E H=C9 P E.ev H (gK P bl K l dst E H) (.fieldAddr t x f):=B9I _ _ _ _ _ _ _ _ rfl
@[go_sem] theorem C8o(c:Call)(bl:List Nat)(l:List (Option Oper))(dst:Option Nat)(ty:Nat)(pos:String)(after:Array Edge)(h:Option (Nat×Bool)):wpG P bl K (some ⟨dst,.call c,ty,pos,after,h⟩::l) E H=C9 P E.ev H (gK P bl K l dst E H) (.call c):=B9I _ _ _ _ _ _ _ _ rfl
@[go_sem] theorem C7r(t:Nat)(a x:Operand)(bl:List Nat)(l:List (Option Oper))(dst:Option Nat)(ty:Nat)(pos:String)(after:Array Edge)(h:Option (Nat×Bool)):wpG P bl K (some ⟨dst,.store t a x,ty,pos,after,h⟩::l) E H=C9 P E.ev H (gK P bl K l dst E H) (.store t a x):=B9I _ _ _ _ _ _ _ _ rfl
@[go_sem] theorem D0x(t n:Nat)(ps:Array (Nat×Operand))(bl:List Nat)(l:List (Option Oper))(dst:Option Nat)(ty:Nat)(pos:String)(after:Array Edge)(h:Option (Nat×Bool)):wpG P bl K (some ⟨dst,.buildSlice t n ps,ty,pos,after,h⟩::l) E H=C9 P E.ev H (gK P bl K l dst E H) (.buildSlice t n ps):=B9I _ _ _ _ _ _ _ _ rfl
@[go_sem] theorem C47(o:Oper)(l:List Oper):A1u (o::l) 0=some o:=rfl
@[go_sem] theorem C48(o:Oper)(l:List Oper)(i:Nat):A1u (o::l) (i+1)=A1u l i:=rfl
@[go_sem] theorem C8p(a b:Code):wp P Z (.seq a b) Q E H=wp P Z a (B9G P Z b Q) E H:=by
 show wp P Z a _ E H=wp P Z a _ E H
 congr 1;funext x;cases x<;>rfl
@[go_sem] theorem C7s(c:Operand)(x y:Code):wp P Z (.cond c x y) Q E H=B0G P Z c (E.ev c) x y Q E H:=rfl
@[go_sem] theorem C6C(id:Nat)(c:Code):wp P Z (.block id c) Q E H=wp P Z c (A8h id Q) E H:=by
 show wp P Z c _ E H=wp P Z c _ E H
 congr 1;funext x;cases x<;>rfl
@[go_sem] theorem C7t(c:Code):wp P Z (.loop c) Q E H=B5v P Z c Q E H:=by
 show B23 _ E H=B23 _ E H
 congr 1;funext K;congr 1;funext x;cases x<;>rfl
@[go_sem] theorem C7u(id:Nat):wp P Z (.exit id) Q E H=Q (.exit id) E H:=rfl
@[go_sem] theorem C8q:wp P Z .ret Q E H=Q .ret E H:=rfl
@[go_sem] theorem C6D(c:Code):wp P Z (.scope c) Q E H=wp P Z c Q E H:=rfl
@[go_sem] theorem C6E(l:Nat):wp P Z (.label l) Q E H=Q .normal E H:=rfl
@[go_sem] theorem C1k(b:Code):B9G P Z b Q .normal E H=wp P Z b Q E H:=rfl
@[go_sem] theorem C49(b:Code)(i:Nat):B9G P Z b Q (.exit i) E H=Q (.exit i) E H:=rfl
@[go_sem] theorem C6F(b:Code):B9G P Z b Q .ret E H=Q .ret E H:=rfl
@[go_sem] theorem B8m(i:Nat):A8h i Q .normal E H=Q .normal E H:=rfl
@[go_sem] theorem C1l(i j:Nat):A8h i Q (.exit j) E H=if j=i then Q .normal E H else Q (.exit j) E H:=rfl
@[go_sem] theorem C23(i:Nat):A8h i Q .ret E H=Q .ret E H:=rfl
@[go_sem] theorem B9J:A6F Q K .normal E H=K E H:=rfl
@[go_sem] theorem C24(j:Nat):A6F Q K (.exit j) E H=Q (.exit j) E H:=rfl
@[go_sem] theorem C5A:A6F Q K .ret E H=Q .ret E H:=rfl
@[go_sem] theorem C1m:B24 Q E H=Q .normal E H:=rfl
theorem A2y(c:Operand)(b:Bool)(x y:Code):B0G P Z c (.bool b) x y Q E H=((b=true→wp P Z x Q (E.fix c true) H)∧(b=false→wp P Z y Q (E.fix c false) H)):=by
 unfold B0G;simp only[D.bool.injEq,exists_eq_left']
attribute [go_sem low] A2y
@[go_sem high] theorem C25(c:Operand)(x y:Code):B0G P Z c (.bool true) x y Q E H=wp P Z x Q (E.fix c true) H:=by rw[A2y];simp
@[go_sem high] theorem C1n(c:Operand)(x y:Code):B0G P Z c (.bool false) x y Q E H=wp P Z y Q (E.fix c false) H:=by rw[A2y];simp
@[go_sem] theorem C7v(t:Nat)(b:Bool):Env.fix E (.tmp t) b=(t,.bool b)::E:=rfl
@[go_sem] theorem C7w:wpOps P gs K [] E H=K E H:=rfl
@[go_sem] theorem C6G(dst:Option Nat)(op:Op)(ty:Nat)(pos:String)(after:Array Edge):wpOps P gs K (⟨dst,op,ty,pos,after,none⟩::l) E H=C9 P (Env.ev E) H (opK P gs K l dst E) op:=rfl
@[go_sem] theorem C5B(dst:Option Nat)(op:Op)(ty:Nat)(pos:String)(after:Array Edge)(j:Nat)(h:Bool):
  wpOps P gs K (⟨dst,op,ty,pos,after,some (j,h)⟩::l) E H=B10 P gs K l dst op (H7 gs j) h E H:=by
 rw[wpOps];simp only[];unfold A1s B10;cases H7 gs j<;>rfl
@[go_sem] theorem B5y(g:Option Nat)(h:List (Option Nat)):H7 (g::h) 0=g:=rfl
@[go_sem] theorem B5z(g:Option Nat)(h:List (Option Nat))(j:Nat):H7 (g::h) (j+1)=H7 h j:=by simp[H7]
@[go_sem] theorem C1o(dst:Option Nat)(op:Op)(s:Nat)(h:Bool):B10 P gs K l dst op (some s) h E H=A0g P gs K l dst op s (E.get s) h E H:=rfl
theorem a8(dst:Option Nat)(op:Op)(s:Nat)(b h:Bool):A0g P gs K l dst op s (.bool b) h E H=
  ((b=h→C9 P (Env.ev ((s,.bool h)::E)) H (opK P gs K l dst ((s,.bool h)::E)) op)∧(b= !h→wpOps P gs K l (Env.put ((s,.bool (!h))::E) dst (.tuple [])) H)):=by
 unfold A0g;simp only[D.bool.injEq,exists_eq_left',reduceCtorEq,false_and,false_or]
attribute [go_sem low] a8
@[go_sem high] theorem C1p(dst:Option Nat)(op:Op)(s:Nat)(h:Bool):A0g P gs K l dst op s (.tuple []) h E H=wpOps P gs K l (E.put dst (.tuple [])) H:=by
 unfold A0g;simp
@[go_sem high] theorem C5C(dst:Option Nat)(op:Op)(s:Nat):A0g P gs K l dst op s (.bool true) true E H=C9 P (Env.ev ((s,.bool true)::E)) H (opK P gs K l dst ((s,.bool true)::E)) op:=by rw[a8];simp
@[go_sem high] theorem C5D(dst:Option Nat)(op:Op)(s:Nat):A0g P gs K l dst op s (.bool false) false E H=C9 P (Env.ev ((s,.bool false)::E)) H (opK P gs K l dst ((s,.bool false)::E)) op:=by rw[a8];simp
@[go_sem high] theorem C5E(dst:Option Nat)(op:Op)(s:Nat):A0g P gs K l dst op s (.bool true) false E H=wpOps P gs K l (Env.put ((s,.bool true)::E) dst (.tuple [])) H:=by rw[a8];simp
@[go_sem high] theorem C5F(dst:Option Nat)(op:Op)(s:Nat):A0g P gs K l dst op s (.bool false) true E H=wpOps P gs K l (Env.put ((s,.bool false)::E) dst (.tuple [])) H:=by rw[a8];simp
@[go_sem] theorem C7x(dst:Option Nat)(d:D):opK P gs K l dst E d H=wpOps P gs K l (Env.put E dst d) H:=rfl
def C6H(P:Program)(bl:List Nat)(gs:List (Option Nat))(K:Env→Heap→Prop)(l:List Oper)(dst:Option Nat)(E:Env):D→Heap→Prop:=fun d H=>Y5 P bl gs K l (E.put dst d) H
def B50(P:Program)(bl:List Nat)(gs:List (Option Nat))(K:Env→Heap→Prop)(l:List Oper)(dst:Option Nat)(op:Op)(s:Nat)(d:D)(want:Bool)(E:Env)(H:Heap):Prop:=
 (d= .tuple []∧Y5 P bl gs K l (E.put dst (.tuple [])) H)∨
 ∃b,d= .bool b∧(b=want→A5w P bl (Env.ev ((s,.bool want)::E)) H (C6H P bl gs K l dst ((s,.bool want)::E)) op)∧(b= !want→Y5 P bl gs K l (Env.put ((s,.bool (!want))::E) dst (.tuple [])) H)
theorem B0I(dst:Option Nat)(op:Op)(s:Nat)(b i:Bool):B50 P bl gs K l dst op s (.bool b) i E H=
  ((b=i→A5w P bl (Env.ev ((s,.bool i)::E)) H (C6H P bl gs K l dst ((s,.bool i)::E)) op)∧(b= !i→Y5 P bl gs K l (Env.put ((s,.bool (!i))::E) dst (.tuple [])) H)):=by
 unfold B50;apply propext;constructor
 ·rintro(⟨h,_⟩|⟨j,h,h1⟩)
  ·cases h
  ·cases h;exact h1
 ·exact fun h=>.inr ⟨b,rfl,h⟩
attribute [go_sem low] B0I
def roH(H:Heap):Heap:=fun k=>match H k with
 |some (.ro cs)=>some (.ro cs)
 |_=>none
theorem A6G{H:Heap}{k:Nat}{cs:List D}(h:H k=some (.ro cs)):roH H k=some (.ro cs):=by unfold roH;rw[h]
theorem A2z(H:Heap):(roH H).Le H:=fun k o h=>by
 unfold roH at h;split at h
 ·rename_i cs e;cases h;exact e
 ·cases h
theorem d9(H:Heap)(k:Nat):(roH H).held k=false:=by
 cases h:roH H k with
 |none=>exact G7 h
 |some o=>
  have i:=h;unfold roH at i;split at i
  ·cases i;rw[I1 h];rfl
  ·cases i
theorem C26(H:Heap):H.sub (roH H)=H:=by
 funext k;unfold Heap.sub;rw[d9];simp
def C8r(H:Heap)(b:Nat):Heap:=fun k=>if k=b then H k else roH H k
theorem B9K(H:Heap)(b:Nat):C8r H b b=H b:=if_pos rfl
@[go_sem] theorem A4Q(d:D):R7 (some d) KD H=KD d H:=by simp[R7]
@[go_sem] theorem C6I(c:Prop) [Decidable c] (a:Option D):R7 (if c then a else none) KD H=(c∧R7 a KD H):=by
 by_cases h:c<;>simp[h,R7]
@[go_sem] theorem C5G(H':Heap):B0F (some H') KD=KD .undef H':=by simp[B0F]
@[go_sem] theorem C6J(c:Prop) [Decidable c] (a:Option Heap):B0F (if c then a else none) KD=(c∧B0F a KD):=by
 by_cases h:c<;>simp[h,B0F]
def tt:D→Heap→Prop:=fun _ _=>True
variable {sx:Bool} {bl:List Nat}
@[go_sem] theorem C7y(i j:Nat)(d:D)(E:Env):Env.get ((i,d)::E) j=if i=j then d else Env.get E j:=rfl
@[go_sem] theorem C7z(i:Nat)(d:D):Env.put E (some i) d=(i,d)::E:=rfl
@[go_sem] theorem B9L(d:D):Env.put E none d=E:=rfl
@[go_sem] theorem C8s(t:Nat):Env.ev E (.tmp t)=Env.get E t:=rfl
@[go_sem] theorem C8t(k:IntKind)(n:Int):Env.ev E (.const (.int k n))= .int k n:=rfl
@[go_sem] theorem C70(b:Bool):Env.ev E (.const (.bool b))= .bool b:=rfl
@[go_sem] theorem C8u(s:ByteArray):Env.ev E (.const (.string s))= .str s:=rfl
@[go_sem] theorem C6K:Env.ev E (.const (.slice none 0 0))= .nilsl:=rfl
@[go_sem] theorem C5H:Env.ev E (.const (.map none))= .nilmap:=rfl
@[go_sem] theorem C6L:Env.ev E (.const .nilIface)= .nilif:=rfl
@[go_sem] theorem C71(f:Nat):Env.ev E (.func f)= .fn (.func f) [] []:=rfl
@[go_sem] theorem C8v(x:Operand):C9 P ev H KD (.move x)=KD (ev x) H:=A4Q _
@[go_sem] theorem C6M(x:Operand):C9 P ev H KD (.assign x)=KD (ev x) H:=A4Q _
def B27:D→D→D→Option D
 | .bool t,a,b=>some (if t then a else b)
 |_,_,_=>none
@[go_sem high] theorem C5I(a b:D):B27 (.bool true) a b=some a:=rfl
@[go_sem high] theorem C27(a b:D):B27 (.bool false) a b=some b:=rfl
@[go_sem] theorem C8w(c a b:Operand):C9 P ev H KD (.pick c a b)=R7 (B27 (ev c) (ev a) (ev b)) KD H:=by
 show R7 _ KD H=_;simp only[L1,B27]
 congr 1
 cases ev c<;>rfl
def A8i:D→Option D
 | .box b off=>some (.box b off)
 | .el b sz i off=>some (.el b sz i off)
 | .ro cs=>some (.ro cs)
 | .fn (.func f) a b=>some (.fn (.func f) a b)
 |_=>none
@[go_sem] theorem C5J(b off:Nat):A8i (.box b off)=some (.box b off):=rfl
@[go_sem] theorem C6N(b sz i off:Nat):A8i (.el b sz i off)=some (.el b sz i off):=rfl
@[go_sem] theorem C72(x:Operand):C9 P ev H KD (.nilCheck x)=R7 (A8i (ev x)) KD H:=by
 show R7 _ KD H=_;simp only[L1,A8i];generalize ev x=d;cases d<;>rfl
@[go_sem] theorem D0B(op:BinOp)(t:Nat)(x y:Operand)(h:Nat):C9 P ev H KD (.binOp op t x y h)=R7 (A1m P op t (J3 x||J3 y) (ev x) (ev y)) KD H:=rfl
@[go_sem] theorem D0y(op:UnOp)(t:Nat)(x:Operand):C9 P ev H KD (.unOp op t x)=R7 (unD op (ev x)) KD H:=rfl
@[go_sem] theorem C73(t:Nat)(x:Operand)(f:Nat):C9 P ev H KD (.fieldAddr t x f)=R7 (Y1 P t (ev x) f) KD H:=rfl
@[go_sem] theorem C74(t:Nat)(x i:Operand):C9 P ev H KD (.indexAddr t x i)=R7 (Q2 P t (ev x) (ev i)) KD H:=rfl
@[go_sem] theorem C75(t:Nat)(x i:Operand):C9 P ev H KD (.index t x i)=R7 (A5r P t (ev x) (ev i)) KD H:=rfl
@[go_sem] theorem C76(t:Nat)(x:Operand)(lo h:Option Operand):C9 P ev H KD (.slice t x lo h none)=R7 (T9 P t (ev x) (lo.map ev) (h.map ev)) KD H:=rfl
def A6H:D→Nat→Option D
 | .tuple ds,i=>ds[i]?
 |_,_=>none
@[go_sem] theorem B8n(ds:List D)(i:Nat):A6H (.tuple ds) i=ds[i]? :=rfl
@[go_sem] theorem C5K(x:Operand)(i:Nat):C9 P ev H KD (.extract x i)=R7 (A6H (ev x) i) KD H:=by
 show R7 _ KD H=_;simp only[L1,A6H]
 congr 1
 cases ev x<;>rfl
@[go_sem] theorem C8x(t:Nat)(x:Operand):C9 P ev H KD (.load t x)=R7 (y5 P t (ev x) H) KD H:=rfl
@[go_sem] theorem C77(t:Nat)(a x:Operand):C9 P ev H KD (.store t a x)=B0F (Y3 P t (ev a) (ev x) H) KD:=rfl
def B12(z:Option (List D))(Z:Option TypeId)(H:Heap)(KD:D→Heap→Prop):Prop:=∃c,z=some c∧∀b,H b=none→KD (.box b 0) (H.set b (.box c Z))
@[go_sem] theorem C78(t:Nat):C9 P ev H KD (.alloc t)=B12 (G4 P t) (A1h P t) H KD:=rfl
@[go_sem] theorem C1q(c:List D)(Z:Option TypeId):B12 (some c) Z H KD= ∀b,H b=none→KD (.box b 0) (H.set b (.box c Z)):=by simp[B12]
@[go_sem] theorem D0C(t:Nat)(x:Operand):C9 P ev H KD (.box t x)=((ev x).cells.all D.one=true∧∀b,H b=none→KD (.box b 0) (H.set b (.box (ev x).cells))):=rfl
@[go_sem] theorem C8y(f:Operand)(args:List Operand)(h:Array Nat):C9 P ev H KD (.call ⟨.value f,args.toArray,h⟩)=B5w P (ev f) (args.map ev) H KD:=by
 show (match ev f with| .fn (.func g) first captured=>ACalls P g (first++args.toArray.toList.map ev++captured) H KD|_=>False)=_;unfold B5w;rfl
@[go_sem] theorem C6O(g:Nat)(fs h cs:List D):B5w P (.fn (.func g) fs cs) h H KD=ACalls P g (fs++h++cs) H KD:=rfl
def C6P:Option Obj→Option (List (D×D))
 |some (.map kvs)=>some kvs
 |_=>none
@[go_sem] theorem C6Q(kvs:List (D×D)):C6P (some (.map kvs))=some kvs:=rfl
@[go_sem] theorem C79(b:Nat):X7 H (.map b)=C6P (H b):=by
 simp only[X7];generalize H b=o;cases o with
 |none=>rfl
 |some o=>cases o<;>rfl
@[go_sem] theorem C8z(kvs:List (D×D)):X7 H (.fm kvs)=some kvs:=rfl
def B51(o:Option (List (D×D)))(KD:List (D×D)→Prop):Prop:=∃kvs,o=some kvs∧KD kvs
@[go_sem] theorem C5L(kvs:List (D×D))(K:List (D×D)→Prop):B51 (some kvs) K=K kvs:=by simp[B51]
def B52(bs:R1)(P:Program)(t:Nat)(d:D)(H:Heap)(KD:D→Heap→Prop):Prop:=match bs with
 | .map=>B51 (X7 H d) fun kvs=>KD (.int .i64 kvs.length) H
 |_=>R7 (A5q P t d) KD H
@[go_sem] theorem C6R(t:Nat)(d:D):B52 .map P t d H KD=B51 (X7 H d) fun kvs=>KD (.int .i64 kvs.length) H:=rfl
@[go_sem] theorem C28(t:Nat)(d:D):B52 .slice P t d H KD=R7 (A5q P t d) KD H:=rfl
@[go_sem] theorem C6S(t:Nat)(d:D):B52 .str P t d H KD=R7 (A5q P t d) KD H:=rfl
@[go_sem] theorem D0D(x:Operand)(t:Nat):C9 P ev H KD (.call ⟨.builtin .len,#[x],#[t]⟩)=B52 (C7 P t) P t (ev x) H KD:=by
 unfold B52 C7;cases h:P.underlying t with
 |none=>simp[C9,I4,h,R7,L1]
 |some u=>cases u<;>simp[C9,I4,h,R7,B51,L1]
def B9M(bs:R1)(d:D):Option D:=match d with
 | .nilsl=>if bs= .slice then some (.int .i64 0)else none
 |_=>none
@[go_sem] theorem C6T:B9M .slice .nilsl=some (.int .i64 0):=rfl
def B28(z:Option D)(kvs:Option (List (D×D)))(kk:KK)(k:D)(ok:Bool):Option D:=match z,kvs with
 |some z,some kvs=>(P5 kk k kvs 0).map (A2s ok z)
 |_,_=>none
@[go_sem] theorem C29(z k:D)(kvs:List (D×D))(h:KK)(ok:Bool):B28 (some z) (some kvs) h k ok=(P5 h k kvs 0).map (A2s ok z):=rfl
def B53(T:Option (TypeId×TypeId×KK))(P:Program)(m k:D)(ok:Bool)(H:Heap):Option D:=match T with
 |some (_,et,kk)=>if R9 kk k=true then B28 (A5u P et) (X7 H m) kk k ok else none
 |none=>none
@[go_sem] theorem C3A(j i:TypeId)(h:KK)(m k:D)(ok:Bool):B53 (some (j,i,h)) P m k ok H=if R9 h k=true then B28 (A5u P i) (X7 H m) h k ok else none:=rfl
@[go_sem] theorem C6U(t:Nat)(m k:Operand)(ok:Bool):C9 P ev H KD (.lookup t m k ok)=R7 (B53 (A3K P t) P (ev m) (ev k) ok H) KD H:=by
 show R7 (A1G P t (ev m) (ev k) ok H) KD H=_;unfold A1G B53 B28;cases A3K P t with
 |none=>rfl
 |some T=>
  obtain⟨i,h,j⟩:=T;simp only[D1l];cases A5u P h<;>cases X7 H (ev m)<;>simp
@[go_sem] theorem C6V(z d:D)(i:Nat):A2s true z (some (i,d))= .tuple [d,.bool true]:=rfl
@[go_sem] theorem C6W(z:D):A2s true z none= .tuple [z,.bool false]:=rfl
@[go_sem] theorem C5M(b:R1)(s:ByteArray):R9 (.one b) (.str s)=true:=rfl
def B29(o:Option Obj)(b:Nat)(kk:KK)(k x:D)(H:Heap):Option Heap:=match o with
 |some (.map kvs)=>(P5 kk k kvs 0).map fun r=>H.set b (.map (A5v kvs k x r))
 |_=>none
@[go_sem] theorem C5N(kvs:List (D×D))(b:Nat)(h:KK)(k x:D):B29 (some (.map kvs)) b h k x H=(P5 h k kvs 0).map fun r=>H.set b (.map (A5v kvs k x r)):=rfl
def B54(T:Option (TypeId×TypeId×KK))(m k x:D)(H:Heap):Option Heap:=match T,m with
 |some (_,_,kk),.map b=>if R9 kk k=true then B29 (H b) b kk k x H else none
 |_,_=>none
@[go_sem] theorem C3B(i j:TypeId)(h:KK)(b:Nat)(k x:D):B54 (some (i,j,h)) (.map b) k x H=if R9 h k=true then B29 (H b) b h k x H else none:=rfl
@[go_sem] theorem C1r(t:Nat)(m k x:Operand):C9 P ev H KD (.mapUpdate t m k x)=B0F (B54 (A3K P t) (ev m) (ev k) (ev x) H) KD:=by
 show B0F (A3L P t (ev m) (ev k) (ev x) H) KD=_;unfold A3L B54 B29;cases A3K P t with
 |none=>rfl
 |some T=>
  obtain⟨h,i,j⟩:=T;simp only[D1l];cases ev m<;>try(simp;done)
  rename_i b;simp only;cases H b with
  |none=>simp
  |some o=>cases o<;>simp
@[go_sem] theorem C5O(t:Nat):C9 P ev H KD (.makeMap t none)= ∀b,H b=none→KD (.map b) (H.set b (.map [])):=rfl
@[go_sem] theorem D0E(x:Operand)(t:Nat):C9 P ev H KD (.call ⟨.builtin .cap,#[x],#[t]⟩)=R7 (B9M (C7 P t) (ev x)) KD H:=by
 have e:L1 P ev (.call ⟨.builtin .cap,#[x],#[t]⟩)=B9M (C7 P t) (ev x):=by
  simp only[L1,List.getElem?_toArray,List.getElem?_cons_zero,Option.map_some];unfold B9M;cases ev x<;>rfl
 show (∃d,L1 P ev (.call ⟨.builtin .cap,#[x],#[t]⟩)=some d∧KD d H)=_;rw[e];rfl
@[go_sem] theorem D0F(x y:Operand)(h:Array Nat):C9 P ev H KD (.call ⟨.builtin .max,#[x,y],h⟩)=R7 (A7M (ev x) (ev y)) KD H:=by
 show R7 (A7N A7M [ev x,ev y]) KD H=_;simp[A7N]
@[go_sem] theorem C6X(s x:Operand)(t h:Nat):C9 P ev H KD (.call ⟨.builtin .append,#[s,x],#[t,h]⟩)=A1F P ev H KD t h s x:=rfl
def C3C(P:Program)(t:Nat)(d:D):Option D:=if C7 P t= .iface∨(P.underlying t).isNone then none else some (.iface t d)
@[go_sem] theorem C5P(t:Nat)(x:Operand):C9 P ev H KD (.makeInterface t x)=R7 (C3C P t (ev x)) KD H:=rfl
@[go_sem] theorem C80(fn:Fn)(fs cs:List Operand):C9 P ev H KD (.makeFunc fn fs.toArray cs.toArray)=KD (.fn fn (fs.map ev) (cs.map ev)) H:=by
 show R7 _ KD H=_;simp[L1,A4Q]
def A8j(P:Program)(t:Nat)(ps:List (Nat×D)):Option D:=match C7 P t with
  | .struct=>(G4 P t).bind fun z=>(L5 P t).bind fun fs=>(l5 (fun i=>(fs[i]?).map fun f=>(f.1,f.2.2)) z ps).map .agg
  | .other=>(G4 P t).bind fun z=>(B1g P t).bind fun s=>(l5 (fun i=>some (i*s.2,s.2)) z ps).map .agg
  |_=>none
def B55(z:Option (List D))(s:Option (Nat×Nat))(ps:List (Nat×D)):Option D:=match z,s with
 |some z,some s=>(l5 (fun i=>some (i*s.2,s.2)) z ps).map .agg
 |_,_=>none
def B13(b:R1)(z:Option (List D))(fs:Option (List (Nat×Bool×Nat)))(s:Option (Nat×Nat))(ps:List (Nat×D)):Option D:=match b with
 | .struct=>match z,fs with
  |some z,some fs=>(l5 (fun i=>(fs[i]?).map fun f=>(f.1,f.2.2)) z ps).map .agg
  |_,_=>none
 | .other=>B55 z s ps
 |_=>none
@[go_sem] theorem C5Q(t:Nat)(ps:List (Nat×D)):A8j P t ps=B13 (C7 P t) (G4 P t) (L5 P t) (B1g P t) ps:=by
 unfold A8j B13 B55;cases C7 P t<;>try rfl
 ·cases G4 P t<;>try rfl
  cases L5 P t<;>rfl
 ·cases G4 P t<;>try rfl
  cases B1g P t<;>rfl
@[go_sem] theorem C1s(z:List D)(fs:List (Nat×Bool×Nat))(s:Option (Nat×Nat))(ps:List (Nat×D)):B13 .struct (some z) (some fs) s ps=(l5 (fun i=>(fs[i]?).map fun f=>(f.1,f.2.2)) z ps).map .agg:=rfl
@[go_sem] theorem C6Y(h:Nat→Option (Nat×Nat))(cs:List D):l5 h cs []=some cs:=rfl
def B56(o:Option (Nat×Nat))(pl:Nat→Option (Nat×Nat))(cs:List D)(d:D)(ps:List (Nat×D)):Option (List D):=match o with
 |none=>none
 |some (off,size)=>if d.cells.length=size∧off+size≤cs.length∧d.cells.all D.one=true then l5 pl (P4 cs off d.cells) ps else none
@[go_sem] theorem C5R(h:Nat→Option (Nat×Nat))(cs:List D)(i:Nat)(d:D)(ps:List (Nat×D)):l5 h cs ((i,d)::ps)=B56 (h i) h cs d ps:=by
 rw[l5];unfold B56;cases h i<;>rfl
@[go_sem] theorem C3D(off size:Nat)(h:Nat→Option (Nat×Nat))(cs:List D)(d:D)(ps:List (Nat×D)):B56 (some (off,size)) h cs d ps=if d.cells.length=size∧off+size≤cs.length∧d.cells.all D.one=true then l5 h (P4 cs off d.cells) ps else none:=rfl
@[go_sem] theorem C8A(t:Nat)(ps:List (Nat×Operand)):C9 P ev H KD (.build t ps.toArray)=R7 (A8j P t (ps.map fun p=>(p.1,ev p.2))) KD H:=by
 show R7 _ KD H=_;simp only[L1,A8j];cases C7 P t<;>rfl
variable {t:Nat} {c:Bool} {k:IntKind} {a b:Int}
@[go_sem] theorem D0G:K7 P .add t c (.int k a) (.int k b)=some (.int k (k.wrap (a+b))):=by simp[K7,A3I]
@[go_sem] theorem D0H:K7 P .sub t c (.int k a) (.int k b)=some (.int k (k.wrap (a-b))):=by simp[K7,A3I]
@[go_sem] theorem D0I:K7 P .mul t c (.int k a) (.int k b)=some (.int k (k.wrap (a*b))):=by simp[K7,A3I]
@[go_sem] theorem D0J:K7 P .quo t c (.int k a) (.int k b)=if b=0 then none else some (.int k (k.wrap (a.tdiv b))):=by simp[K7,A3I]
@[go_sem] theorem D0K:K7 P .rem t c (.int k a) (.int k b)=if b=0 then none else some (.int k (a.tmod b)):=by simp[K7,A3I]
@[go_sem] theorem D0L:K7 P .eql t c (.int k a) (.int k b)=some (.bool (decide (a=b))):=by simp[K7,A3I];rfl
@[go_sem] theorem D0M:K7 P .neq t c (.int k a) (.int k b)=some (.bool (!decide (a=b))):=by simp[K7,A3I];rfl
@[go_sem] theorem D0N:K7 P .lss t c (.int k a) (.int k b)=some (.bool (decide (a<b))):=by simp[K7,A3I]
@[go_sem] theorem D0O:K7 P .leq t c (.int k a) (.int k b)=some (.bool (decide (a≤b))):=by simp[K7,A3I]
@[go_sem] theorem D0P:K7 P .gtr t c (.int k a) (.int k b)=some (.bool (decide (b<a))):=by simp[K7,A3I]
@[go_sem] theorem D0Q:K7 P .geq t c (.int k a) (.int k b)=some (.bool (decide (b≤a))):=by simp[K7,A3I]
@[go_sem] theorem C81(x y:ByteArray):K7 P .add t c (.str x) (.str y)=if x.size+y.size≤9223372036854775807 then some (.str (x++y))else none:=rfl
@[go_sem] theorem C82(x y:ByteArray):K7 P .eql t c (.str x) (.str y)=some (.bool (decide (B x=B y))):=by
 show some (D.bool (x.data.toList==y.data.toList))=_;unfold B;generalize x.data.toList=a;generalize y.data.toList=b;by_cases h:a=b<;>simp[h]
@[go_sem] theorem C83(x y:ByteArray):K7 P .neq t c (.str x) (.str y)=some (.bool (!decide (B x=B y))):=by
 show some (D.bool (!(x.data.toList==y.data.toList)))=_;unfold B;generalize x.data.toList=a;generalize y.data.toList=b;by_cases h:a=b<;>simp[h]
@[go_sem] theorem C84(x y:ByteArray):K7 P .lss t c (.str x) (.str y)=some (.bool (Op.bytesLess x.data.toList y.data.toList)):=rfl
@[go_sem] theorem C85(x y:Bool):K7 P .eql t c (.bool x) (.bool y)=if C7 P t= .bool then some (.bool (x==y))else none:=rfl
@[go_sem] theorem C86(x y:Bool):K7 P .neq t c (.bool x) (.bool y)=if C7 P t= .bool then some (.bool (!(x==y)))else none:=rfl
@[go_sem] theorem C87(x:Bool):unD .not (.bool x)=some (.bool (!x)):=rfl
@[go_sem] theorem C88:unD .neg (.int k a)=some (.int k (k.wrap (0-a))):=rfl
@[go_sem] theorem C6Z(h:IntKind):B2t (.int k a) (.int h b)=some (.int k (if b<a then b else a)):=rfl
@[go_sem] theorem C6a(h:IntKind):A7M (.int k a) (.int h b)=some (.int k (if a<b then b else a)):=rfl
@[go_sem] theorem C89(op:BinOp)(y:D):A1m P op t c (.int k a) y=K7 P op t c (.int k a) y:=by cases op<;>rfl
@[go_sem] theorem C9A(op:BinOp)(x:ByteArray)(y:D):A1m P op t c (.str x) y=K7 P op t c (.str x) y:=by cases op<;>rfl
@[go_sem] theorem C8B(op:BinOp)(x:Bool)(y:D):A1m P op t c (.bool x) y=K7 P op t c (.bool x) y:=by cases op<;>rfl
@[go_sem] theorem C6b(op:BinOp)(y:D):A1m P op t c .nilif y=K7 P op t c .nilif y:=by cases op<;>rfl
@[go_sem] theorem D0R(op:BinOp)(n:Nat)(es:List (List D))(y:D):A1m P op t c (.sl n es) y=K7 P op t c (.sl n es) y:=by cases op<;>rfl
@[go_sem] theorem C6c(op:BinOp)(u:Nat)(d y:D):A1m P op t c (.iface u d) y=K7 P op t c (.iface u d) y:=by cases op<;>rfl
def C3E(l:Option (List (Nat×R1)))(xs ys:List D):Option Bool:=l.bind fun fs=>V1 fs xs ys
theorem A3W{sz:Nat}{es:List (List D)}(he:es≠[])(hb:C7 P t= .slice):K7 P .eql t true (.sl sz es) .nilsl=some (.bool false):=by
 cases es with
 |nil=>exact absurd rfl he
 |cons e es=>simp[K7,A5p,A9l,hb]
@[go_sem] theorem C3F(xs h:List D):A1m P .neq t c (.agg xs) (.agg h)=(C3E (A1D P t) xs h).map fun b=>.bool (!b):=by
 show (A1D P t).bind _=_;unfold C3E;cases A1D P t<;>rfl
@[go_sem] theorem C5S(fs:List (Nat×R1))(xs h:List D):C3E (some fs) xs h=V1 fs xs h:=rfl
@[go_sem] theorem C5T(xs h:List D):V1 [] xs h=some true:=rfl
def B57(x y:Option D)(bs:R1)(r:Option Bool):Option Bool:=match x,y with
 |some x,some y=>(V0 bs x y).bind fun c=>r.map (c&& ·)
 |_,_=>none
@[go_sem] theorem C3G(o:Nat)(bs:R1)(fs:List (Nat×R1))(xs h:List D):V1 ((o,bs)::fs) xs h=B57 xs[o]? h[o]? bs (V1 fs xs h):=rfl
@[go_sem] theorem C6d(k:IntKind)(a b:Int)(r:Option Bool):B57 (some (.int k a)) (some (.int k b)) .int r=r.map (decide (a=b)&& ·):=by
 simp[B57,V0];rfl
@[go_sem] theorem C6e(a b:ByteArray)(r:Option Bool):B57 (some (.str a)) (some (.str b)) .str r=r.map (decide (B a=B b)&& ·):=by
 have:(a.data.toList==b.data.toList)=decide (B a=B b):=by
  unfold B;generalize a.data.toList=x;generalize b.data.toList=y;by_cases h:x=y<;>simp[h]
 simp only[B57,V0,this,D1l]
def elB(o:Option Obj)(sz lo n:Nat):Option (List (List D)):=match o with
 |some (.vec sz' es)=>if sz=sz'∧lo+n≤es.length then some ((es.drop lo).take n)else none
 |_=>none
@[go_sem] theorem C8C(sz' sz lo n:Nat)(es:List (List D)):elB (some (.vec sz' es)) sz lo n=if sz=sz'∧lo+n≤es.length then some ((es.drop lo).take n)else none:=rfl
@[go_sem] theorem C6f(sz sz':Nat)(es:List (List D)):M7 H sz (.sl sz' es)=if sz=sz' then some es else none:=rfl
@[go_sem] theorem C5U(sz b sz' lo n:Nat):M7 H sz (.vec b sz' lo n)=if sz=sz' then elB (H b) sz lo n else none:=by
 simp only[M7];generalize H b=o;cases o with
 |none=>rfl
 |some o=>cases o<;>rfl
@[go_sem] theorem C6g(es:List (List D)):A4E es []=some es:=rfl
@[go_sem] theorem C5V(es:List (List D))(i:Nat)(d:D)(ps:List (Nat×D)):A4E es ((i,d)::ps)=if i<es.length∧d.cells.length=(es.getD i []).length∧d.cells.all D.one=true then A4E (es.set i d.cells) ps else none:=rfl
def bsC(o:Option (List (List D)))(sz len:Nat)(H:Heap)(KD:D→Heap→Prop):Prop:=match o with
 |some es=>∀b,H b=none→KD (.vec b sz 0 len) (H.set b (.vec sz es))
 |none=>False
@[go_sem] theorem C6h(es:List (List D))(sz len:Nat):bsC (some es) sz len H KD= ∀b,H b=none→KD (.vec b sz 0 len) (H.set b (.vec sz es)):=rfl
def bsB(z:Option (List D))(sz len:Nat)(ps:List (Nat×D))(H:Heap)(KD:D→Heap→Prop):Prop:=match z with
 |some z=>z.length=sz∧bsC (A4E (List.replicate len z) ps) sz len H KD
 |none=>False
@[go_sem] theorem C6i(z:List D)(sz len:Nat)(ps:List (Nat×D)):bsB (some z) sz len ps H KD=(z.length=sz∧bsC (A4E (List.replicate len z) ps) sz len H KD):=rfl
def bsA(P:Program)(et:Option (Nat×Nat×Nat))(len:Nat)(ps:List (Nat×D))(H:Heap)(KD:D→Heap→Prop):Prop:=match et with
 |some (e,sz,_)=>0<sz∧len*sz≤16777216∧bsB (G4 P e) sz len ps H KD
 |none=>False
@[go_sem] theorem C6j(e sz h len:Nat)(ps:List (Nat×D)):bsA P (some (e,sz,h)) len ps H KD=(0<sz∧len*sz≤16777216∧bsB (G4 P e) sz len ps H KD):=rfl
@[go_sem] theorem B9N(t len:Nat)(ps:List (Nat×Operand)):C9 P ev H KD (.buildSlice t len ps.toArray)=bsA P (G6 P t) len (ps.map fun p=>(p.1,ev p.2)) H KD:=by
 show (∃e sz i z es,G6 P t=some (e,sz,i)∧0<sz∧len*sz≤16777216∧G4 P e=some z∧z.length=sz∧A4E (List.replicate len z) (ps.map fun p=>(p.1,ev p.2))=some es∧_)=_;apply propext;constructor
 ·rintro⟨e,sz,i,z,es,h1,j,m,q,h5,r,u⟩;rw[h1];refine⟨j,m,?_⟩;rw[q];refine⟨h5,?_⟩;rw[r];exact u
 ·intro h;cases he:G6 P t with
  |none=>rw[he]at h;exact h.elim
  |some e=>
   obtain⟨e,sz,i⟩:=e;rw[he]at h;obtain⟨j,m,h⟩:=h;cases o:G4 P e with
   |none=>rw[o]at h;exact h.elim
   |some z=>
    rw[o]at h;obtain⟨h5,h⟩:=h;cases hs:A4E (List.replicate len z) (ps.map fun p=>(p.1,ev p.2))with
    |none=>rw[hs]at h;exact h.elim
    |some es=>rw[hs]at h;exact⟨e,sz,i,z,es,rfl,j,m,o,h5,hs,h⟩
def apV(o:Option Obj)(b sz n by_:Nat)(xs:List (List D))(H:Heap)(KD:D→Heap→Prop):Prop:=match o with
 |some (.vec sz' es)=>sz=sz'∧n≤es.length∧(n+xs.length)*by_≤140737488355328∧n+xs.length≤9223372036854775807∧∀b',H.del b b'=none→KD (.vec b' sz 0 (n+xs.length)) ((H.del b).set b' (.vec sz (es.take n++xs)))
 |_=>False
@[go_sem] theorem C8D(b sz sz' n h:Nat)(es xs:List (List D)):apV (some (.vec sz' es)) b sz n h xs H KD=(sz=sz'∧n≤es.length∧(n+xs.length)*h≤140737488355328∧n+xs.length≤9223372036854775807∧∀i,H.del b i=none→KD (.vec i sz 0 (n+xs.length)) ((H.del b).set i (.vec sz (es.take n++xs)))):=rfl
def apW(o:Option Obj)(b sz lo n by_:Nat)(xs:List (List D))(H:Heap)(KD:D→Heap→Prop):Prop:=match o with
 |some (.vec sz' es)=>sz=sz'∧lo+n≤es.length∧(n+xs.length)*by_≤140737488355328∧n+xs.length≤9223372036854775807∧∀b' pre,H.del b b'=none→KD (.vec b' sz pre.length (n+xs.length)) ((H.del b).set b' (.vec sz (pre++((es.drop lo).take n++xs))))
 |_=>False
def apL(lo:Nat)(o:Option Obj)(b sz n by_:Nat)(xs:List (List D))(H:Heap)(KD:D→Heap→Prop):Prop:=(lo=0∧apV o b sz n by_ xs H KD)∨apW o b sz lo n by_ xs H KD
@[go_sem] theorem D0V(o:Option Obj)(b sz n i:Nat)(xs:List (List D)):apL 0 o b sz n i xs H KD=apV o b sz n i xs H KD:=by
 refine propext ⟨fun h=>?_,fun h=>.inl ⟨rfl,h⟩⟩;rcases h with h|h
 ·exact h.2
 ·unfold apW at h;split at h
  ·obtain⟨h1,r,m,p,h5⟩:=h;exact⟨h1,by omega,m,p,fun q j=>by simpa using h5 q [] j⟩
  ·exact h.elim
def apS(s:D)(sz by_:Nat)(xs:List (List D))(H:Heap)(KD:D→Heap→Prop):Prop:=match s with
 | .nilsl=>xs.length*by_≤140737488355328∧xs.length≤9223372036854775807∧(xs= []→KD .nilsl H)∧(xs≠[]→∀b,H b=none→KD (.vec b sz 0 xs.length) (H.set b (.vec sz xs)))
 | .vec b sz' lo n=>sz'=sz∧apL lo (H b) b sz n by_ xs H KD
 |_=>False
@[go_sem] theorem C8E(sz h:Nat)(xs:List (List D)):apS .nilsl sz h xs H KD=(xs.length*h≤140737488355328∧xs.length≤9223372036854775807∧(xs= []→KD .nilsl H)∧(xs≠[]→∀b,H b=none→KD (.vec b sz 0 xs.length) (H.set b (.vec sz xs)))):=rfl
@[go_sem] theorem C8F(b sz sz' lo n h:Nat)(xs:List (List D)):apS (.vec b sz' lo n) sz h xs H KD=(sz'=sz∧apL lo (H b) b sz n h xs H KD):=rfl
def apX(o:Option (List (List D)))(s:D)(sz by_:Nat)(H:Heap)(KD:D→Heap→Prop):Prop:=match o with
 |some xs=>apS s sz by_ xs H KD
 |none=>False
@[go_sem] theorem C6k(xs:List (List D))(s:D)(sz h:Nat):apX (some xs) s sz h H KD=apS s sz h xs H KD:=rfl
def apZ(o:Option (List D))(sz:Nat):Prop:=match o with
 |some z=>z.length=sz
 |none=>False
@[go_sem] theorem C6l(z:List D)(sz:Nat):apZ (some z) sz=(z.length=sz):=rfl
def apT(b:R1):Prop:=b= .slice∨b= .str
@[go_sem] theorem C5W:apT .slice=True:=by simp[apT]
def apK(P:Program)(et:Option (Nat×Nat×Nat))(bt:R1)(s x:D)(H:Heap)(KD:D→Heap→Prop):Prop:=match et with
 |some (e,sz,by_)=>0<sz∧apT bt∧apZ (G4 P e) sz∧apX (M7 H sz x) s sz by_ H KD
 |none=>False
@[go_sem] theorem C6m(e sz h:Nat)(i:R1)(s x:D):apK P (some (e,sz,h)) i s x H KD=(0<sz∧apT i∧apZ (G4 P e) sz∧apX (M7 H sz x) s sz h H KD):=rfl
@[go_sem] theorem C5X(s x:Operand)(t J:Nat):A1F P ev H KD t J s x=apK P (G6 P t) (C7 P J) (ev s) (ev x) H KD:=by
 unfold A1F;apply propext;constructor
 ·rintro⟨e,sz,p,h1,y,A,m,xs,h5,u⟩;rw[h1];refine⟨y,A,?_,?_⟩
  ·cases q:G4 P e with
   |none=>rw[q]at m;cases m
   |some z=>rw[q]at m;simpa [apZ]using m
  ·rw[h5];show apS _ _ _ _ _ _;cases hs:ev s<;>rw[hs]at u<;>try exact u.elim
   ·exact u
   ·obtain⟨r,⟨G,es,i,j⟩|⟨es,i,j⟩⟩:=u
    ·refine⟨r,.inl ⟨G,?_⟩⟩;rw[i];exact⟨rfl,j⟩
    ·refine⟨r,.inr ?_⟩;rw[i];exact⟨rfl,j⟩
 ·intro h;cases he:G6 P t with
  |none=>rw[he]at h;exact h.elim
  |some e=>
   obtain⟨e,sz,p⟩:=e;rw[he]at h;obtain⟨y,A,m,h5⟩:=h;cases hx:M7 H sz (ev x)with
   |none=>rw[hx]at h5;exact h5.elim
   |some xs=>
    rw[hx]at h5;refine⟨e,sz,p,rfl,y,A,?_,xs,hx,?_⟩
    ·cases q:G4 P e with
     |none=>rw[q]at m;exact m.elim
     |some z=>rw[q]at m;simpa [apZ]using m
    ·change apS _ _ _ _ _ _ at h5;cases hs:ev s<;>rw[hs]at h5<;>try exact h5.elim
     ·exact h5
     ·rename_i b sz' lo n;obtain⟨r,⟨G,i⟩|i⟩:=h5
      ·refine⟨r,.inl ⟨G,?_⟩⟩;cases ho:H b with
       |none=>rw[ho]at i;exact i.elim
       |some o=>
        rw[ho]at i;cases o with
        |vec I es=>obtain⟨rfl,j⟩:=i;exact⟨es,rfl,j⟩
        |_=>exact i.elim
      ·refine⟨r,.inr ?_⟩;cases ho:H b with
       |none=>rw[ho]at i;exact i.elim
       |some o=>
        rw[ho]at i;cases o with
        |vec I es=>obtain⟨rfl,j⟩:=i;exact⟨es,rfl,j⟩
        |_=>exact i.elim
def msC(z:Option (List D))(sz by_:Nat)(l c:D)(H:Heap)(KD:D→Heap→Prop):Prop:=match z,l,c with
 |some z,.int _ n,.int _ m=>z.length=sz∧0≤n∧n≤m∧by_*m≤281474976710656∧m<9223372036854775808∧∀b,H b=none→KD (.vec b sz 0 n.toNat) (H.set b (.vec sz (List.replicate n.toNat z)))
 |_,_,_=>False
@[go_sem] theorem C8G(z:List D)(sz h:Nat)(k i:IntKind)(n m:Int):msC (some z) sz h (.int k n) (.int i m) H KD=(z.length=sz∧0≤n∧n≤m∧h*m≤281474976710656∧m<9223372036854775808∧∀b,H b=none→KD (.vec b sz 0 n.toNat) (H.set b (.vec sz (List.replicate n.toNat z)))):=rfl
def msA(P:Program)(et:Option (Nat×Nat×Nat))(l c:D)(H:Heap)(KD:D→Heap→Prop):Prop:=match et with
 |some (e,sz,by_)=>0<sz∧msC (G4 P e) sz by_ l c H KD
 |none=>False
@[go_sem] theorem C6n(e sz h:Nat)(l c:D):msA P (some (e,sz,h)) l c H KD=(0<sz∧msC (G4 P e) sz h l c H KD):=rfl
@[go_sem] theorem C1t(t:Nat)(l c:Operand):C9 P ev H KD (.makeSlice t l c)=msA P (G6 P t) (ev l) (ev c) H KD:=by
 simp only[C9];apply propext;constructor
 ·rintro⟨e,sz,j,z,k,n,x,m,h1,o,i,q,h5,r,u⟩;rw[h1,h5,r];refine⟨o,?_⟩;rw[i];exact⟨q,u⟩
 ·intro h;cases he:G6 P t with
  |none=>rw[he]at h;exact h.elim
  |some e=>
   obtain⟨e,sz,j⟩:=e;rw[he]at h;obtain⟨o,i⟩:=h;cases p:G4 P e with
   |none=>rw[p]at i;exact i.elim
   |some z=>
    rw[p]at i;cases hl:ev l<;>rw[hl]at i<;>try exact i.elim
    cases hc:ev c<;>rw[hc]at i<;>try exact i.elim
    exact⟨e,sz,j,z,_,_,_,_,rfl,o,p,i.1,rfl,rfl,i.2⟩
def A69(P:Program)(t:Nat):Option IntKind:=match P.underlying t with
 |some (.int k)=>some k
 |_=>none
def B58(P:Program)(t:Nat):Bool:=match P.underlying t with
 |some (.slice e)=>match P.underlying e with
  |some (.int .u8)=>true
  |_=>false
 |_=>false
def cvI(d:D)(k:Option IntKind)(H:Heap)(KD:D→Heap→Prop):Prop:=match d,k with
 | .int _ n,some k=>KD (.int k (k.wrap n)) H
 |_,_=>False
@[go_sem] theorem C8H(k h:IntKind)(n:Int):cvI (.int k n) (some h) H KD=KD (.int h (h.wrap n)) H:=rfl
@[go_sem] theorem C5Y(s t:Nat)(x:Operand)(h1:(A69 P s).isSome=true)(h:(A69 P t).isSome=true):C9 P ev H KD (.convert s t x)=cvI (ev x) (A69 P t) H KD:=by
 unfold A69 at h1 h;split at h1
 ·rename_i i e1;split at h
  ·rename_i j e2;have hc:I4 P (.convert s t x)= .pure:=by simp[I4,e1,e2]
   simp only[C9,hc,L1];unfold cvI A69;rw[e2];cases hx:ev x<;>simp[B2u,e1,e2,hx,B0H e1]
  ·cases h
 ·cases h1
def C9H(d:D)(H:Heap)(KD:D→Heap→Prop):Prop:=match d with
 | .int _ n=>KD (.str (Utf8.encode n)) H
 |_=>False
@[go_sem] theorem C6o(k:IntKind)(n:Int):C9H (.int k n) H KD=KD (.str (Utf8.encode n)) H:=rfl
def C6p(d:D)(H:Heap)(KD:D→Heap→Prop):Prop:=match d with
 | .str z=>∀b,H b=none→KD (.vec b 1 0 z.size) (H.set b (.vec 1 (F1 z)))
 |_=>False
@[go_sem] theorem C6q(z:ByteArray):C6p (.str z) H KD= ∀b,H b=none→KD (.vec b 1 0 z.size) (H.set b (.vec 1 (F1 z))):=rfl
theorem A7b(s t:Nat)(x:Operand)(h1:C7 P s= .str)(i:B58 P t=true)(h:C6p (ev x) H KD):C9 P ev H KD (.convert s t x):=by
 obtain⟨e,j,he⟩: ∃e,P.underlying t=some (.slice e)∧P.underlying e=some (.int .u8):=by
  unfold B58 at i;split at i
  ·rename_i e j;split at i
   ·rename_i he;exact⟨e,j,he⟩
   ·cases i
  ·cases i
 have hs:P.underlying s=some .string:=by
  unfold C7 at h1;split at h1<;>simp_all
 have hc:I4 P (.convert s t x)= .eff:=by simp[I4,hs,j]
 simp only[C9,hc,A3J];cases hx:ev x<;>rw[hx]at h<;>try exact h.elim
 exact⟨h1,by simp[j,he],h⟩
def A8k(P:Program)(t:Nat)(x:D)(H:Heap)(KD:D→Heap→Prop):Prop:=match x with
 | .str s=>P.underlying t=some .string∧∀b,H b=none→KD (.box b 0) (H.set b (.iter s 0))
 | .fm kvs=>(A3K P t).isSome=true∧∀b,H b=none→KD (.box b 0) (H.set b (.rng kvs []))
 |_=>False
@[go_sem] theorem C8I(t:Nat)(x:Operand):C9 P ev H KD (.range t x)=A8k P t (ev x) H KD:=by
 unfold A8k;rfl
@[go_sem] theorem C5Z(t:Nat)(kvs:List (D×D)):A8k P t (.fm kvs) H KD=((A3K P t).isSome=true∧∀b,H b=none→KD (.box b 0) (H.set b (.rng kvs []))):=rfl
@[go_sem] theorem C3I(t:Nat)(s:ByteArray):A8k P t (.str s) H KD=(P.underlying t=some .string∧∀b,H b=none→KD (.box b 0) (H.set b (.iter s 0))):=rfl
def B3A(o:Option Obj)(b:Nat)(H:Heap)(KD:D→Heap→Prop):Prop:=match o with
 |some (.iter s pos)=>(pos<s.size→KD (.tuple [.bool true,.int .i64 pos,.int .i32 (Utf8.decode s pos).1]) (H.set b (.iter s (pos+(Utf8.decode s pos).2))))∧(¬pos<s.size→KD (.tuple [.bool false]) H)
 |_=>False
def B59(x:D)(H:Heap)(KD:D→Heap→Prop):Prop:=match x with
 | .box b 0=>B3A (H b) b H KD
 |_=>False
@[go_sem] theorem C9I(x:Operand):C9 P ev H KD (.next x true)=B59 (ev x) H KD:=by
 unfold B59 B3A;simp only[C9];cases ev x<;>try rfl
 rename_i b off;cases off<;>rfl
def nxR(kvs:List (D×D))(seen:List Nat)(b:Nat)(H:Heap)(KD:D→Heap→Prop):Prop:=(∀i p,kvs[i]? =some p→i∉seen→KD (.tuple [.bool true,p.1,p.2]) (H.set b (.rng kvs (seen++[i]))))∧((∀i,i<kvs.length→i∈seen)→KD (.tuple [.bool false]) H)
theorem A8l{kvs:List (D×D)}{seen:List Nat}{b:Nat}(h1: ∀i (hi:i<kvs.length),i∉seen→KD (.tuple [.bool true,kvs[i].1,kvs[i].2]) (H.set b (.rng kvs (seen++[i]))))(h:(∀i,i<kvs.length→i∈seen)→KD (.tuple [.bool false]) H):nxR kvs seen b H KD:=
 ⟨fun i p hp hn=>by obtain⟨hi,rfl⟩:=D1R.1 hp;exact h1 i hi hn,h⟩
def B3B(o:Option Obj)(b:Nat)(H:Heap)(KD:D→Heap→Prop):Prop:=match o with
 |some (.rng kvs seen)=>nxR kvs seen b H KD
 |_=>False
def B6A(x:D)(H:Heap)(KD:D→Heap→Prop):Prop:=match x with
 | .box b 0=>B3B (H b) b H KD
 |_=>False
@[go_sem] theorem C8K(x:Operand):C9 P ev H KD (.next x false)=B6A (ev x) H KD:=by
 unfold B6A B3B nxR;simp only[C9];cases ev x<;>try rfl
 rename_i b off;cases off<;>rfl
@[go_sem] theorem C5a(b:Nat):B6A (.box b 0) H KD=B3B (H b) b H KD:=rfl
@[go_sem] theorem C5b(kvs:List (D×D))(seen:List Nat)(b:Nat):B3B (some (.rng kvs seen)) b H KD=nxR kvs seen b H KD:=rfl
def B9P(o:Option (D×D))(H:Heap)(KD:D→Heap→Prop):Prop:=match o with
 |some p=>KD (.tuple [p.1,p.2]) H
 |none=>False
def B6B(o:Option Nat)(kvs:List (D×D))(H:Heap)(KD:D→Heap→Prop):Prop:=match o with
 |some i=>B9P kvs[i]? H KD
 |none=>False
def B9Q(o:Option Obj)(H:Heap)(KD:D→Heap→Prop):Prop:=match o with
 |some (.rng kvs seen)=>B6B seen.getLast? kvs H KD
 |_=>False
def C3J(x:D)(H:Heap)(KD:D→Heap→Prop):Prop:=match x with
 | .box b 0=>B9Q (H b) H KD
 |_=>False
theorem B9R(o:Option Nat)(kvs:List (D×D)):(∃i p,o=some i∧kvs[i]? =some p∧KD (.tuple [p.1,p.2]) H)=B6B o kvs H KD:=by
 unfold B6B B9P;cases o with
 |none=>simp
 |some i=>
  cases e:kvs[i]? with
  |none=>simp[e]
  |some p=>exact propext ⟨fun⟨j,q,h1,m,r⟩=>by cases h1;rw[e]at m;cases m;simp only[e];exact r,fun h=>⟨i,p,rfl,e,by simp only[e]at h;exact h⟩⟩
@[go_sem] theorem C8L(x:Operand):C9 P ev H KD (.entry x)=C3J (ev x) H KD:=by
 unfold C3J B9Q;simp only[C9,B9R];cases ev x<;>try rfl
@[go_sem] theorem C6r(b:Nat):C3J (.box b 0) H KD=B9Q (H b) H KD:=rfl
@[go_sem] theorem C6s(kvs:List (D×D))(seen:List Nat):B9Q (some (.rng kvs seen)) H KD=B6B seen.getLast? kvs H KD:=rfl
@[go_sem] theorem C5c(i:Nat)(kvs:List (D×D)):B6B (some i) kvs H KD=B9P kvs[i]? H KD:=rfl
@[go_sem] theorem C5d(p:D×D):B9P (some p) H KD=KD (.tuple [p.1,p.2]) H:=rfl
@[go_sem] theorem C5e(b:Nat):B59 (.box b 0) H KD=B3A (H b) b H KD:=rfl
@[go_sem] theorem C3K(s:ByteArray)(pos b:Nat):B3A (some (.iter s pos)) b H KD=((pos<s.size→KD (.tuple [.bool true,.int .i64 pos,.int .i32 (Utf8.decode s pos).1]) (H.set b (.iter s (pos+(Utf8.decode s pos).2))))∧(¬pos<s.size→KD (.tuple [.bool false]) H)):=rfl
variable {t:Nat}
@[go_sem] theorem A3(b:Nat)(o:Obj):(H.set b o) b=some o:=by simp[Heap.set]
theorem A8{b k:Nat}(o:Obj)(h:k≠b):(H.set b o) k=H k:=by simp[Heap.set,h]
@[go_sem] theorem B9S(b:Nat)(o o':Obj):(H.set b o).set b o'=H.set b o':=by
 funext k;unfold Heap.set;split<;>rfl
theorem B9{b:Nat}{o:Obj}(h:H b=some o):(H.set b o).Le H:=fun k x hx=>by
 unfold Heap.set at hx;split at hx
 ·rename_i e;rw[e,h];exact hx
 ·exact hx
theorem A5{b k:Nat}{o:Obj}:(H.set b o) k=none↔k≠b∧H k=none:=by unfold Heap.set;by_cases h:k=b<;>simp[h]
theorem D0{b k:Nat}(h:k≠b):(H.del b) k=H k:=by simp[Heap.del,h]
theorem A0{b:Nat}{o:Obj}(h:H b=none):H.Le (H.set b o):=fun k x hx=>by
 rw[A8 o (by rintro rfl;rw[h]at hx;cases hx)];exact hx
theorem A2{b k:Nat}(o:Obj)(h:k≠b):(H.set b o) k=H k:=by simp[Heap.set,h]
def B6C:Option (Bool×Nat)→Option (List D)→Option D
 |some s,some cs=>y3 s cs
 |_,_=>none
@[go_sem] theorem C6t(a:D):y5 P t a H=B6C (F7 P t) (A4D H a):=by
 unfold y5 B6C;cases F7 P t<;>simp;cases A4D H a<;>rfl
@[go_sem] theorem C3L(s:Bool×Nat)(cs:List D):B6C (some s) (some cs)=y3 s cs:=rfl
def C6u:Option Obj→Nat→Option (List D)
 |some (.box cs _),off=>some (cs.drop off)
 |_,_=>none
def C6v:Option Obj→Nat→Nat→Nat→Option (List D)
 |some (.vec sz' es),sz,i,off=>if sz=sz' then(es[i]?).map (·.drop off)else none
 |_,_,_,_=>none
@[go_sem] theorem C8M(b off:Nat):A4D H (.box b off)=C6u (H b) off:=by
 simp only[A4D];generalize H b=o;cases o with
 |none=>rfl
 |some o=>cases o<;>rfl
@[go_sem] theorem C9J(b sz i off:Nat):A4D H (.el b sz i off)=C6v (H b) sz i off:=by
 simp only[A4D];generalize H b=o;cases o with
 |none=>rfl
 |some o=>cases o<;>rfl
@[go_sem] theorem C9K(cs:List D):A4D H (.ro cs)=some cs:=rfl
@[go_sem] theorem C6w(cs:List D)(Z:Option TypeId)(off:Nat):C6u (some (.box cs Z)) off=some (cs.drop off):=rfl
@[go_sem] theorem C6x(sz sz' i off:Nat)(es:List (List D)):C6v (some (.vec sz' es)) sz i off=if sz=sz' then(es[i]?).map (·.drop off)else none:=rfl
@[go_sem] theorem C6y(n:Nat)(cs:List D):y3 (false,n) cs=cs.head?:=rfl
@[go_sem] theorem C6z(n:Nat)(cs:List D):y3 (true,n) cs=if n≤cs.length then some (.agg (cs.take n))else none:=rfl
def A4R:Option (Bool×Nat)→Option Obj→Nat→Nat→List D→Heap→Option Heap
 |some (_,n),some (.box cs Z),b,off,xs,H=>if n=xs.length∧xs.all D.one=true∧off+xs.length≤cs.length then some (H.set b (.box (P4 cs off xs) Z))else none
 |_,_,_,_,_,_=>none
def A0B:Option (Bool×Nat)→Option Obj→Nat→Nat→Nat→Nat→List D→Heap→Option Heap
 |some (_,n),some (.vec sz' es),b,sz,i,off,xs,H=>if n=xs.length∧xs.all D.one=true∧sz=sz'∧i<es.length∧off+xs.length≤sz then some (H.set b (.vec sz (es.set i (P4 (es.getD i []) off xs))))else none
 |_,_,_,_,_,_,_,_=>none
@[go_sem] theorem C5f(b off:Nat)(x:D):Y3 P t (.box b off) x H=A4R (F7 P t) (H b) b off x.cells H:=by
 unfold Y3;cases hs:F7 P t with
 |none=>simp[A4R]
 |some s=>
  obtain⟨bb,n⟩:=s;cases hb:H b with
  |none=>simp[A4R,hb]
  |some o=>cases o with
   |box cs=>
    simp only[Option.map_some,D1t,A4R,hb];by_cases h1:n=x.cells.length<;>by_cases h:x.cells.all D.one=true<;>by_cases i:off+x.cells.length≤cs.length<;>simp only[h1,h,i]<;>simp
   |_=>simp[A4R,hb]
@[go_sem] theorem C60(b sz i off:Nat)(x:D):Y3 P t (.el b sz i off) x H=A0B (F7 P t) (H b) b sz i off x.cells H:=by
 unfold Y3;cases hs:F7 P t with
 |none=>simp[A0B]
 |some s=>
  obtain⟨bb,n⟩:=s;cases hb:H b with
  |none=>simp[A0B,hb]
  |some o=>cases o with
   |box cs=>simp[A0B,hb]
   |ro cs=>simp[A0B,hb]
   |iter=>simp[A0B,hb]
   |map=>simp[A0B,hb]
   |rng=>simp[A0B,hb]
   |buf=>simp[A0B,hb]
   |vec sz' es=>
    simp only[Option.map_some,D1t,A0B,hb];by_cases h1:n=x.cells.length<;>by_cases h:x.cells.all D.one=true<;>simp only[h1,h]<;>simp
@[go_sem] theorem C3M(bb:Bool)(n b off:Nat)(cs xs:List D)(Z:Option TypeId):A4R (some (bb,n)) (some (.box cs Z)) b off xs H=if n=xs.length∧xs.all D.one=true∧off+xs.length≤cs.length then some (H.set b (.box (P4 cs off xs) Z))else none:=rfl
@[go_sem] theorem C3N(bb:Bool)(n b sz sz' i off:Nat)(es:List (List D))(xs:List D):A0B (some (bb,n)) (some (.vec sz' es)) b sz i off xs H=if n=xs.length∧xs.all D.one=true∧sz=sz'∧i<es.length∧off+xs.length≤sz then some (H.set b (.vec sz (es.set i (P4 (es.getD i []) off xs))))else none:=rfl
@[go_sem] theorem C5g(cs:List D)(i:Nat):P4 cs i []=cs:=by cases cs<;>rfl
@[go_sem] theorem C3O(cs xs:List D)(i:Nat)(x:D):P4 cs i (x::xs)=P4 (cs.set i x) (i+1) xs:=by cases cs<;>rfl
@[go_sem] theorem C5h(cs:List D):(D.agg cs).cells=cs:=rfl
@[go_sem] theorem C5i(k:IntKind)(n:Int):(D.int k n).cells= [.int k n]:=rfl
@[go_sem] theorem C3P(b:Bool):(D.bool b).cells= [.bool b]:=rfl
@[go_sem] theorem C5j(s:ByteArray):(D.str s).cells= [.str s]:=rfl
@[go_sem] theorem C1u:D.nilsl.cells= [.nilsl]:=rfl
@[go_sem] theorem C61(sz:Nat)(es:List (List D)):(D.sl sz es).cells= [.sl sz es]:=rfl
@[go_sem] theorem C5k(b sz lo n:Nat):(D.vec b sz lo n).cells= [.vec b sz lo n]:=rfl
@[go_sem] theorem C5l(b:Nat):(D.map b).cells= [.map b]:=rfl
attribute [go_sem] D.one
def A0C(e:Option (Nat×Nat×Nat))(sz:Nat)(o:Option D):Option D:=match e with
 |some (_,sz',_)=>if sz'=sz then o else none
 |none=>none
@[go_sem] theorem C1v(e sz' h sz:Nat)(o:Option D):A0C (some (e,sz',h)) sz o=if sz'=sz then o else none:=rfl
def A20(x:D):Option (Nat×Nat)→Option D
 |none=>none
 |some (l,h)=>match x with
  | .str s=>some (.str (s.extract l h))
  | .nilsl=>some .nilsl
  | .sl sz es=>some (.sl sz ((es.take h).drop l))
  | .vec b sz lo _=>some (if l=0 then .vec b sz lo h else .vec b sz (lo+l) (h-l))
  |_=>none
def Y6(x:D)(b:Option (Nat×Nat)):Option D:=A20 x b
theorem A1v(x:D)(c:Prop) [Decidable c] (b:Option (Nat×Nat)):Y6 x (if c then b else none)=if c then Y6 x b else none:=by split<;>rfl
theorem C3Q(n:Nat)(k:IntKind)(l:Int):boundsD n (some (.int k l)) none=if 0≤l∧l≤n then some (l.toNat,n)else none:=rfl
theorem C3R(n:Nat)(k:IntKind)(h:Int):boundsD n none (some (.int k h))=if 0≤h∧h≤n then some (0,h.toNat)else none:=rfl
theorem C3S(n:Nat)(k i:IntKind)(l h:Int):boundsD n (some (.int k l)) (some (.int i h))=if 0≤l∧l≤h∧h≤n then some (l.toNat,h.toNat)else none:=rfl
theorem A4S(s:ByteArray)(lo h:Option D):T9 P t (.str s) lo h=if C7 P t= .str then Y6 (.str s) (boundsD s.size lo h)else none:=by
 simp only[T9,Y6];generalize boundsD s.size lo h=o;cases o<;>rfl
def B14(b:R1)(o:Option D):Option D:=if b= .str then o else none
@[go_sem] theorem C62(o:Option D):B14 .str o=o:=rfl
@[go_sem] theorem B9T(s:ByteArray)(k:IntKind)(l:Int):T9 P t (.str s) (some (.int k l)) none=B14 (C7 P t) (if 0≤l∧l≤s.size then some (.str (S ((B s).drop l.toNat)))else none):=by
 rw[A4S];unfold B14;have:s.extract l.toNat s.size=S ((B s).drop l.toNat):=by rw[A4P,←a7,List.take_length]
 rw[C3Q,A1v];split
 ·split
  ·show some (D.str (s.extract l.toNat s.size))=_;rw[this]
  ·rfl
 ·rfl
@[go_sem] theorem B9U(s:ByteArray)(k:IntKind)(h:Int):T9 P t (.str s) none (some (.int k h))=B14 (C7 P t) (if 0≤h∧h≤s.size then some (.str (S ((B s).take h.toNat)))else none):=by
 rw[A4S];unfold B14;have:s.extract 0 h.toNat=S ((B s).take h.toNat):=by rw[A4P,List.drop_zero]
 rw[C3R,A1v];split
 ·split
  ·show some (D.str (s.extract 0 h.toNat))=_;rw[this]
  ·rfl
 ·rfl
@[go_sem] theorem B9V(s:ByteArray)(k i:IntKind)(l h:Int):T9 P t (.str s) (some (.int k l)) (some (.int i h))=B14 (C7 P t) (if 0≤l∧l≤h∧h≤s.size then some (.str (S (((B s).take h.toNat).drop l.toNat)))else none):=by
 rw[A4S];unfold B14;rw[C3S,A1v];split
 ·split
  ·show some (D.str (s.extract l.toNat h.toNat))=_;rw[A4P]
  ·rfl
 ·rfl
@[go_sem] theorem C5m(lo h:Option D):T9 P t .nilsl lo h=if(G6 P t).isSome then Y6 .nilsl (boundsD 0 lo h)else none:=by
 simp only[T9,Y6];generalize boundsD 0 lo h=o;cases o<;>rfl
@[go_sem] theorem C63(sz:Nat)(es:List (List D))(lo h:Option D):T9 P t (.sl sz es) lo h=A0C (G6 P t) sz (Y6 (.sl sz es) (boundsD es.length lo h)):=by
 simp only[T9,Y6];generalize boundsD es.length lo h=o;cases G6 P t with
 |none=>simp[A0C]
 |some e=>cases o<;>simp[A20,A0C]
@[go_sem] theorem C5n(b sz l n:Nat)(lo h:Option D):T9 P t (.vec b sz l n) lo h=A0C (G6 P t) sz (Y6 (.vec b sz l n) (boundsD n lo h)):=by
 simp only[T9,Y6];generalize boundsD n lo h=o;cases G6 P t with
 |none=>simp[A0C]
 |some e=>cases o<;>simp[A20,A0C]
@[go_sem] theorem C1w(x:D)(l h:Nat):Y6 x (some (l,h))=A20 x (some (l,h)):=rfl
@[go_sem] theorem C3T(x:D)(c:Prop) [Decidable c] (b:Option (Nat×Nat)):Y6 x (if c then b else none)=if c then Y6 x b else none:=by split<;>rfl
@[go_sem] theorem C3U(l h:Nat):A20 .nilsl (some (l,h))=some .nilsl:=rfl
@[go_sem] theorem C5o(sz l h:Nat)(es:List (List D)):A20 (.sl sz es) (some (l,h))=some (.sl sz ((es.take h).drop l)):=rfl
@[go_sem] theorem C3V(b sz lo n l h:Nat):A20 (.vec b sz lo n) (some (l,h))=some (if l=0 then .vec b sz lo h else .vec b sz (lo+l) (h-l)):=rfl
@[go_sem] theorem D0Y(n:Nat)(k:IntKind)(l:Int):boundsD n (some (.int k l)) none=if 0≤l∧l≤n then some (l.toNat,n)else none:=rfl
@[go_sem] theorem D0Z(n:Nat)(k:IntKind)(h:Int):boundsD n none (some (.int k h))=if 0≤h∧h≤n then some (0,h.toNat)else none:=rfl
@[go_sem] theorem C8N(s:ByteArray):A5q P t (.str s)=if C7 P t= .str then some (.int .i64 s.size)else none:=rfl
@[go_sem] theorem C8O:A5q P t .nilsl=if C7 P t= .slice then some (.int .i64 0)else none:=rfl
@[go_sem] theorem C9L(sz:Nat)(es:List (List D)):A5q P t (.sl sz es)=if C7 P t= .slice then some (.int .i64 es.length)else none:=rfl
@[go_sem] theorem C8P(b sz lo n:Nat):A5q P t (.vec b sz lo n)=if C7 P t= .slice then some (.int .i64 n)else none:=rfl
@[go_sem] theorem C9M(s:ByteArray)(k:IntKind)(n:Int):A5r P t (.str s) (.int k n)=if C7 P t= .str∧0≤n∧n<s.size then some (.int .u8 (S9 s n))else none:=rfl
@[go_sem] theorem D0a(sz:Nat)(es:List (List D))(k:IntKind)(n:Int):Q2 P t (.sl sz es) (.int k n)=A0C (G6 P t) sz (if 0≤n∧n<es.length then some (.ro (es.getD n.toNat []))else none):=by
 unfold Q2 A0C;cases G6 P t with
 |none=>simp
 |some e=>obtain⟨a,b,c⟩:=e;by_cases h:b=sz<;>simp[h]
@[go_sem] theorem C9N(b sz l m:Nat)(k:IntKind)(n:Int):Q2 P t (.vec b sz l m) (.int k n)=A0C (G6 P t) sz (if 0≤n∧n<m then some (.el b sz (l+n.toNat) 0)else none):=by
 unfold Q2 A0C;cases G6 P t with
 |none=>simp
 |some e=>obtain⟨a,i,c⟩:=e;by_cases h:i=sz<;>simp[h]
def A6I(f:Option (Nat×Bool×Nat))(x:D):Option D:=match f with
 |some (o,_,n)=>if n=0 then none else match x with
  | .box b off=>some (.box b (off+o))
  | .el b sz i off=>some (.el b sz i (off+o))
  | .ro cs=>some (.ro (cs.drop o))
  |_=>none
 |none=>none
def A8m(l:Option (List (Nat×Bool×Nat)))(f:Nat):Option (Nat×Bool×Nat):=match l with
 |some l=>l[f]?
 |none=>none
@[go_sem] theorem B9W(l:List (Nat×Bool×Nat))(f:Nat):A8m (some l) f=l[f]? :=rfl
@[go_sem] theorem C9O(x:D)(f:Nat):Y1 P t x f=A6I (A8m (L5 P t) f) x:=by
 unfold Y1 A6I A8m;cases L5 P t<;>rfl
@[go_sem] theorem C3W(o n b off:Nat)(bb:Bool):A6I (some (o,bb,n)) (.box b off)=if n=0 then none else some (.box b (off+o)):=rfl
@[go_sem] theorem C5p(o n b sz i off:Nat)(bb:Bool):A6I (some (o,bb,n)) (.el b sz i off)=if n=0 then none else some (.el b sz i (off+o)):=rfl
@[go_sem] theorem C5q(o n:Nat)(bb:Bool)(cs:List D):A6I (some (o,bb,n)) (.ro cs)=if n=0 then none else some (.ro (cs.drop o)):=rfl
@[go_sem] theorem C64(h:List ResultVar)(Q:D→Heap→Prop):A8f P h Q .ret E H=B9H (A2x P h E H) Q H:=rfl
@[go_sem] theorem C1x(h:List ResultVar)(Q:D→Heap→Prop):A8f P h Q .normal E H=B9H (A2x P h E H) Q H:=rfl
@[go_sem] theorem C5r(d:D)(Q:D→Heap→Prop):B9H (some d) Q H=Fin Q d H:=by simp[B9H]
@[go_sem] theorem C5s:A2x P [] E H=some (.tuple []):=rfl
@[go_sem] theorem C65(t:Nat):A2x P [.tmp t] E H=some (E.get t):=rfl
def B15(P:Program)(rs:List ResultVar)(E:Env)(H:Heap):Option (List D):=rs.mapM (A0T P E H)
def C1y:Option D→Option (List D)→Option (List D)
 |some d,some l=>some (d::l)
 |_,_=>none
@[go_sem] theorem C3X(d:D)(l:List D):C1y (some d) (some l)=some (d::l):=rfl
@[go_sem] theorem C66:B15 P [] E H=some []:=rfl
@[go_sem] theorem A7c(r:ResultVar)(h:List ResultVar):B15 P (r::h) E H=C1y (A0T P E H r) (B15 P h E H):=by
 simp only[B15,List.mapM_cons,Option.bind_eq_bind,Option.pure_def];cases A0T P E H r<;>cases List.mapM (A0T P E H) h<;>rfl
@[go_sem] theorem C5t(r h:ResultVar)(i:List ResultVar):A2x P (r::h::i) E H=(B15 P (r::h::i) E H).map .tuple:=by
 unfold A2x;show Option.map _ (B15 P (r::h::i) E H)=_;rw[A7c,A7c];cases A0T P E H r<;>cases A0T P E H h<;>cases B15 P i E H<;>rfl
@[go_sem] theorem C5u(t:Nat):A0T P E H (.tmp t)=some (E.get t):=rfl
@[go_sem] theorem C3Y(a t:Nat):A0T P E H (.cell a t)=y5 P t (E.get a) H:=rfl
@[go_sem] theorem C5v(a t:Nat):A2x P [.cell a t] E H=y5 P t (E.get a) H:=by
 simp[A2x,A0T,List.mapM_cons];cases y5 P t (E.get a) H<;>rfl
end
theorem A4{x:Int}(h1: -9223372036854775808≤x)(h:x≤9223372036854775807):IntKind.i64.wrap x=x:=IntWalk.i64_in _ (by omega)
def Sub:Env→Env→Prop
 | [],_=>True
 |(i,d)::r,E=>E.get i=d∧Sub r E
def Nx{ι :Type}(Ei: ι →Env)(Hi: ι →Heap)(Inv: ι →Prop)(μ : ι →Nat)(x: ι):Env→Heap→Prop:=fun E' H'=>∃y,Inv y∧ μ y< μ x∧A1N (Ei y) (Hi y) E' H'
theorem Sub.all: ∀{E0 E:Env},Sub E0 E→∀p∈E0,E.get p.1=p.2
 | [],_,_,_,hp=>by simp at hp
 |(i,d)::r,E,h,p,hp=>by
  rcases D1j.1 hp with rfl|hp
  ·exact h.1
  ·exact Sub.all h.2 p hp
theorem C3Z{P:Program}{Z:List (Nat×Rc)}{c:Code}{Q:AX→Env→Heap→Prop}{E:Env}{H:Heap}{ι :Type}(i: ι →Env)(j: ι →Heap)(h: ι →Prop)(μ : ι →Nat)(o: ι)(u:h o)(hw:A1N (i o) (j o) E H)
  (step: ∀x,h x→wp P Z c (A6F Q (Nx i j h μ x)) (i x) (j x)):B5v P Z c Q E H:=by
 refine⟨fun n E H=>∃x,h x∧ μ x=n∧E=i x∧H=j x,⟨μ o,i o,j o,hw,o,u,rfl,rfl,rfl⟩,?_⟩;rintro n z A ⟨x,hx,rfl,rfl,rfl⟩;have p:(fun r H'=>∃m E0 H0,m< μ x∧A1N E0 H0 r H'∧∃x,h x∧ μ x=m∧E0=i x∧H0=j x)=Nx i j h μ x:=by
  funext r H'
  apply propext;constructor
  ·rintro⟨m,E0,H0,hm,hw,y,q,rfl,rfl,rfl⟩;exact⟨y,q,hm,hw⟩
  ·rintro⟨y,q,hm,hs⟩;exact⟨μ y,i y,j y,hm,hs,y,q,rfl,rfl,rfl⟩
 have:=step x hx;rw[p];exact this
theorem C3a{P:Program}{Z:List (Nat×Rc)}{c:Code}{Q:AX→Env→Heap→Prop}{E:Env}{H:Heap}{ι :Type}(i: ι →Env)(j: ι →Heap)(h: ι →Prop)(μ : ι →Nat)(m: ι)(o:h m)(p:Sub (i m) E)(q:(j m).Le H)
  (step: ∀x,h x→wp P Z c (A6F Q (Nx i j h μ x)) (i x) (j x)):B5v P Z c Q E H:=C3Z i j h μ m o (A8e p.all q) step
attribute [go_sem] Sub
theorem V8{P:Program}{K:Env→Heap→Prop}{E:Env}{H:Heap}{i:List (Option Nat)}{ops:List Oper}(E0:Env)(H0:Heap)(j:Sub E0 E)(m:H0.Le H)(h:wpOps P i K ops E0 H0):A3V P i ops K E H (some .wk):=⟨E0,H0,A8e j.all m,h⟩
theorem A2Q{C T G:Prop}(h:(C→T)→G)(t:C→T):G:=h t
def A21(E:Env):List Nat→Env
 | []=>[]
 |t::ts=>(t,E.get t)::A21 E ts
def cat:Env→Env→Env
 | [],F=>F
 |p::E,F=>p::cat E F
@[go_sem] theorem C3b(E:Env):A21 E []= []:=rfl
@[go_sem] theorem C10(E:Env)(t:Nat)(h:List Nat):A21 E (t::h)=(t,E.get t)::A21 E h:=rfl
@[go_sem] theorem C8Q(F:Env):cat [] F=F:=rfl
@[go_sem] theorem C67(p:Nat×D)(E F:Env):cat (p::E) F=p::cat E F:=rfl
theorem B3C: ∀{A B E:Env},Sub A E→Sub B E→Sub (cat A B) E
 | [],_,_,_,h=>h
 |_::_,_,_,h1,i=>⟨h1.1,B3C h1.2 i⟩
theorem A6J(E:Env): ∀h,Sub (A21 E h) E
 | []=>trivial
 |_::h=>⟨rfl,A6J E h⟩
theorem C8{P:Program}{Z:List (Nat×Rc)}{c:Code}{Q:AX→Env→Heap→Prop}{E:Env}{H:Heap}{ι :Type}(o:List Nat)(i: ι →Env)(j: ι →Heap)(h: ι →Prop)(μ : ι →Nat)(m: ι)(p:h m)(q:Sub (i m) E)(r:(j m).Le H)
  (step: ∀Ec,Ec=A21 E o→∀x,h x→wp P Z c (A6F Q (Nx (fun x=>cat Ec (i x)) j h μ x)) (cat Ec (i x)) (j x)):B5v P Z c Q E H:=C3a (fun x=>cat (A21 E o) (i x)) j h μ m p (B3C (A6J E o) q) r (step _ rfl)
theorem C4{ι :Type}{i: ι →Env}{j: ι →Heap}{h: ι →Prop}{μ : ι →Nat}{x: ι}{m:Env}{H':Heap}(y: ι)(h1:h y)(o: μ y< μ x)(p:Sub (i y) m)(q:(j y).Le H'):Nx i j h μ x m H':=⟨y,h1,o,A8e p.all q⟩
theorem B6D{ι :Type}{i: ι →Env}{j: ι →Heap}{h: ι →Prop}{μ : ι →Nat}{x: ι}{m:Env}{H':Heap}(y: ι)(h1:h y)(o: μ y< μ x)(p:A1N (i y) (j y) m H'):Nx i j h μ x m H':=⟨y,h1,o,p⟩
def nth(l:List UInt8)(k:Nat):Int:=((l.getD k 0).toNat:Int)
@[go_sem] theorem D0b(l:List UInt8)(i:Int):S9 (S l) i=nth l i.toNat:=by
 show (((S l).data.toList.getD i.toNat 0).toNat:Int)=_;rw[show (S l).data.toList=l from v8 l];rfl
theorem B6E(s:ByteArray):S9 s 0=nth (B s) 0:=rfl
attribute [irreducible] Fin B5v Nx
attribute [go_sem] V7 D2Y List.map_nil Option.map_some Option.map_none D2T D16 D2S D2f D2g Bool.not_eq_true' Bool.not_eq_false' D1d decide_eq_false_iff_not true_and and_true List.drop_succ_cons List.drop_zero List.head?_cons List.take_succ_cons List.take_zero D1M D1O List.set_cons_zero List.set_cons_succ D2K List.all_nil Bool.and_true Bool.true_and List.getElem?_cons_zero D1n Nat.zero_add Nat.add_zero Int.toNat_natCast forall_const implies_true Option.isSome_some ne_eq not_true_eq_false not_false_eq_true D1b beq_iff_eq bne_iff_ne beq_eq_false_iff_ne Nat.le_add_left Nat.not_lt_zero beq_self_eq_true if_true if_false D1p D1z Int.toNat_natCast_add_one Option.map_map List.size_toArray D1i false_imp_iff true_imp_iff D1N D2H D10 decide_true decide_false List.replicate_succ List.replicate_zero D1q D1r List.append_eq Nat.min_self
end Go.Av
namespace Go.Lexs
open Go.Av
def V9(c:Int):Bool:=decide (48≤c)&&decide (c≤57)
def B3D(c:Int):Bool:=(decide (97≤c)&&decide (c≤122))||(decide (65≤c)&&decide (c≤90))
def B3E(c:Int):Bool:=B3D c||V9 c||decide (c=95)
def C68(c:Int):Bool:=decide (32≤c)&&decide (c≤126)&&decide (c≠34)&&decide (c≠92)
def C3c(c:Int):Bool:=decide (c=32)||decide (c=9)||decide (c=10)||decide (c=13)
theorem A1O(c:Int):V9 c=true↔48≤c∧c≤57:=by simp[V9]
def ofB(p:Int→Bool)(c:UInt8):Bool:=p (c.toNat:Int)
def C3d(l:List UInt8):Bool:=l.all (ofB C68)&&decide (l.length≤200)
theorem A2m(p:Int→Bool)(l:List UInt8)(k:Nat)(hk:k<l.length):(l.take (k+1)).all (ofB p)=((l.take k).all (ofB p)&&p (nth l k)):=by
 rw[D1a hk,D2L];simp[hk,ofB,nth]
theorem A3X(p:Int→Bool)(l:List UInt8)(k:Nat)(hk:k<l.length)(h:p (nth l k)=false):l.all (ofB p)=false:=by
 rw[List.all_eq_false];exact⟨l[k],D1V hk,by simpa [hk,ofB,nth]using h⟩
def adv(p:Int×Int)(c:UInt8):Int×Int:=if c.toNat=10 then(p.1+1,1)else(p.1,p.2+1)
def place(l:List UInt8)(i:Nat):Int×Int:=(l.take i).foldl adv (1,1)
def A8n:List UInt8→Nat
 | []=>0
 |c::r=>if c.toNat=10 then 0 else A8n r+1
def B9X(l:List UInt8):Bool:=List.isPrefixOf [47,47] l
def B6F:Nat→List UInt8→Nat
 |0,_=>0
 |_+1,[]=>0
 |n+1,c::r=>if ofB C3c c then 1+B6F n r else if B9X (c::r)then A8n (c::r)+B6F n ((c::r).drop (A8n (c::r)))else 0
def sk(l:List UInt8):Nat:=B6F l.length l
def B6G(l:List UInt8)(i:Nat):Nat:=i+sk (l.drop i)
structure Tok where
 kind:Int
 text:List UInt8
 n:Int
 deriving DecidableEq
def A3Y(p:Int→Bool):List UInt8→Nat
 | []=>0
 |c::r=>if ofB p c then A3Y p r+1 else 0
def C69:List UInt8→Nat:=List.foldl (fun n c=>10*n+(c.toNat-48)) 0
def B6H(signs:List (List UInt8))(l:List UInt8):Nat:=signs.foldl (fun n s=>if n<s.length∧List.isPrefixOf s l=true then s.length else n) 0
def A6K:List UInt8→Nat
 | []=>0
 |c::r=>if c.toNat=34 then 0 else A6K r+1
def C9P(signs:List (List UInt8))(l:List UInt8):Option (Tok×Nat):=
 if B3D (nth l 0)then(if A3Y B3E l≤40 then some (⟨1,l.take (A3Y B3E l),0⟩,A3Y B3E l)else none)
 else if V9 (nth l 0)then
  (if C69 (l.take (A3Y V9 l))≤2147483647∧¬(A3Y V9 l<l.length∧B3E (nth l (A3Y V9 l))=true)then some (⟨2,[],C69 (l.take (A3Y V9 l))⟩,A3Y V9 l)else none)
 else if nth l 0=34 then
  (if A6K (l.drop 1)<(l.drop 1).length∧C3d ((l.drop 1).take (A6K (l.drop 1)))=true then some (⟨3,(l.drop 1).take (A6K (l.drop 1)),0⟩,A6K (l.drop 1)+2)else none)
 else if B6H signs l=0 then none else some (⟨4,l.take (B6H signs l),0⟩,B6H signs l)
def C7A(signs:List (List UInt8))(l:List UInt8):Nat→Nat→List (Tok×Nat)→Except Nat (List (Tok×Nat))
 |0,_,acc=>.ok acc
 |f+1,i,acc=>if i<l.length then match C9P signs (l.drop i)with
  |none=>.error i
  |some (t,k)=>C7A signs l f (B6G l (i+k)) (acc++[(t,i)])
  else .ok acc
def cut(signs:List (List UInt8))(l:List UInt8):Except Nat (List (Tok×Nat)):=C7A signs l (l.length+1) (B6G l 0) []
end Go.Lexs
namespace Go.Av
section
variable {P:Program} {E:Env} {H:Heap} {K:Env→Heap→Prop} {l:List Oper} {KD:D→Heap→Prop} {ev:Operand→D} {cs:Nat→CR} {bs:Nat→Bl} {bl:Bl} {c:CR} {gs:List (Option Nat)}
def pK(P:Program)(gs:List (Option Nat))(cs:Nat→CR)(bs:Nat→Bl)(K:Env→Heap→Prop)(i:Nat)(l:List Oper)(dst:Option Nat)(E:Env):D→Heap→Prop:=fun d H=>wpP P gs cs bs K i l (E.put dst d) H
def pOp(P:Program)(c:CR)(bl:Bl)(ev:Operand→D)(H:Heap)(KD:D→Heap→Prop)(op:Op):Prop:=
 ∃e,o9 P c bl.l ev H op=some e∧A58 bl H e∧O4 P c bl.l ev H op∧∀b,e.okH b H→KD (e.val b) (e.app b H)
def A0h(P:Program)(gs:List (Option Nat))(cs:Nat→CR)(bs:Nat→Bl)(K:Env→Heap→Prop)(i:Nat)(l:List Oper)(dst:Option Nat)(op:Op)(s:Nat)(d:D)(want:Bool)(E:Env)(H:Heap):Prop:=
 (d= .tuple []∧wpP P gs cs bs K (i+1) l (E.put dst (.tuple [])) H)∨
 ∃b,d= .bool b∧(b=want→pOp P (cs i) (bs i) (Env.ev ((s,.bool want)::E)) H (pK P gs cs bs K (i+1) l dst ((s,.bool want)::E)) op)∧(b= !want→wpP P gs cs bs K (i+1) l (Env.put ((s,.bool (!want))::E) dst (.tuple [])) H)
def A8o(P:Program)(gs:List (Option Nat))(cs:Nat→CR)(bs:Nat→Bl)(K:Env→Heap→Prop)(i:Nat)(l:List Oper)(dst:Option Nat)(op:Op)(s:Option Nat)(want:Bool)(E:Env)(H:Heap):Prop:=match s with
 |none=>wpP P gs cs bs K (i+1) l (E.put dst (.tuple [])) H
 |some s=>A0h P gs cs bs K i l dst op s (E.get s) want E H
@[go_sem] theorem D0c(i:Nat):wpP P gs cs bs K i [] E H=K E H:=rfl
@[go_sem] theorem C9Q(i:Nat)(dst:Option Nat)(op:Op)(ty:Nat)(pos:String)(after:Array Edge):wpP P gs cs bs K i (⟨dst,op,ty,pos,after,none⟩::l) E H=pOp P (cs i) (bs i) (Env.ev E) H (pK P gs cs bs K (i+1) l dst E) op:=rfl
@[go_sem] theorem C8S(i:Nat)(dst:Option Nat)(op:Op)(ty:Nat)(pos:String)(after:Array Edge)(j:Nat)(h:Bool):
  wpP P gs cs bs K i (⟨dst,op,ty,pos,after,some (j,h)⟩::l) E H=A8o P gs cs bs K i l dst op (H7 gs j) h E H:=by
 rw[wpP];simp only[];unfold A1s A8o;cases H7 gs j<;>rfl
@[go_sem] theorem B9Y(i:Nat)(dst:Option Nat)(op:Op)(s:Nat)(h:Bool):A8o P gs cs bs K i l dst op (some s) h E H=A0h P gs cs bs K i l dst op s (E.get s) h E H:=rfl
theorem i6(i:Nat)(dst:Option Nat)(op:Op)(s:Nat)(b j:Bool):A0h P gs cs bs K i l dst op s (.bool b) j E H=
  ((b=j→pOp P (cs i) (bs i) (Env.ev ((s,.bool j)::E)) H (pK P gs cs bs K (i+1) l dst ((s,.bool j)::E)) op)∧(b= !j→wpP P gs cs bs K (i+1) l (Env.put ((s,.bool (!j))::E) dst (.tuple [])) H)):=by
 unfold A0h;apply propext;constructor
 ·rintro(⟨h,_⟩|⟨m,h,h1⟩)
  ·cases h
  ·cases h;exact h1
 ·exact fun h=>.inr ⟨b,rfl,h⟩
attribute [go_sem low] i6
@[go_sem high] theorem C11(i:Nat)(dst:Option Nat)(op:Op)(s:Nat)(j:Bool):A0h P gs cs bs K i l dst op s (.tuple []) j E H=wpP P gs cs bs K (i+1) l (E.put dst (.tuple [])) H:=by
 unfold A0h;apply propext;constructor
 ·rintro(⟨_,h⟩|⟨m,h,_⟩)
  ·exact h
  ·cases h
 ·exact fun h=>.inl ⟨rfl,h⟩
@[go_sem high] theorem C5w(i:Nat)(dst:Option Nat)(op:Op)(s:Nat):A0h P gs cs bs K i l dst op s (.bool true) true E H=pOp P (cs i) (bs i) (Env.ev ((s,.bool true)::E)) H (pK P gs cs bs K (i+1) l dst ((s,.bool true)::E)) op:=by rw[i6];simp
@[go_sem high] theorem C5x(i:Nat)(dst:Option Nat)(op:Op)(s:Nat):A0h P gs cs bs K i l dst op s (.bool false) false E H=pOp P (cs i) (bs i) (Env.ev ((s,.bool false)::E)) H (pK P gs cs bs K (i+1) l dst ((s,.bool false)::E)) op:=by rw[i6];simp
@[go_sem high] theorem C5y(i:Nat)(dst:Option Nat)(op:Op)(s:Nat):A0h P gs cs bs K i l dst op s (.bool true) false E H=wpP P gs cs bs K (i+1) l (Env.put ((s,.bool true)::E) dst (.tuple [])) H:=by rw[i6];simp
@[go_sem high] theorem C5z(i:Nat)(dst:Option Nat)(op:Op)(s:Nat):A0h P gs cs bs K i l dst op s (.bool false) true E H=wpP P gs cs bs K (i+1) l (Env.put ((s,.bool false)::E) dst (.tuple [])) H:=by rw[i6];simp
@[go_sem] theorem C9R(i:Nat)(dst:Option Nat)(d:D):pK P gs cs bs K i l dst E d H=wpP P gs cs bs K i l (E.put dst d) H:=rfl
theorem A0i{op:Op}(hc:I4 P op= .pure)(hw:C9 P ev H KD op=R7 (L1 P ev op) KD H):pOp P c bl ev H KD op=C9 P ev H KD op:=by
 rw[hw];apply propext;unfold pOp;rw[U2 hc];constructor
 ·rintro⟨e,he,_,_,hk⟩;obtain⟨d,hd,rfl⟩:=D1Q.1 he;have:=hk 0 trivial;refine⟨d,hd,?_⟩;have e2:(val d []).app 0 H=H:=G1 H;rw[e2]at this;exact this
 ·rintro⟨d,hd,hk⟩;refine⟨val d [],by rw[hd];rfl,⟨by simp[val],by simp[val],by simp[val],by simp[val]⟩,?_,fun b _=>?_⟩
  ·cases op<;>try trivial
   rename_i h;obtain⟨callee,args,i⟩:=h;cases callee with
   |value f=>simp[I4]at hc
   |_=>trivial
  ·have e2:(val d []).app b H=H:=G1 H;rw[e2];exact hk
@[go_sem] theorem C9S(x:Operand):pOp P c bl ev H KD (.move x)=C9 P ev H KD (.move x):=A0i rfl rfl
@[go_sem] theorem C7B(x:Operand):pOp P c bl ev H KD (.assign x)=C9 P ev H KD (.assign x):=A0i rfl rfl
@[go_sem] theorem C9T(x y z:Operand):pOp P c bl ev H KD (.pick x y z)=C9 P ev H KD (.pick x y z):=A0i rfl rfl
@[go_sem] theorem C8T(t:Nat)(ps:Array (Nat×Operand)):pOp P c bl ev H KD (.build t ps)=C9 P ev H KD (.build t ps):=A0i rfl rfl
@[go_sem] theorem C8U(x:Operand):pOp P c bl ev H KD (.nilCheck x)=C9 P ev H KD (.nilCheck x):=A0i rfl rfl
@[go_sem] theorem D0d(op:BinOp)(t:Nat)(x y:Operand)(h:Nat):pOp P c bl ev H KD (.binOp op t x y h)=C9 P ev H KD (.binOp op t x y h):=A0i rfl rfl
@[go_sem] theorem D00(op:UnOp)(t:Nat)(x:Operand):pOp P c bl ev H KD (.unOp op t x)=C9 P ev H KD (.unOp op t x):=A0i rfl rfl
@[go_sem] theorem D01(t:Nat)(x:Operand)(f:Nat):pOp P c bl ev H KD (.fieldAddr t x f)=C9 P ev H KD (.fieldAddr t x f):=A0i rfl rfl
@[go_sem] theorem D02(t:Nat)(x i:Operand):pOp P c bl ev H KD (.indexAddr t x i)=C9 P ev H KD (.indexAddr t x i):=A0i rfl rfl
@[go_sem] theorem D0e(x:Operand)(t:Nat)(h:C7 P t≠ .map):pOp P c bl ev H KD (.call ⟨.builtin .len,#[x],#[t]⟩)=C9 P ev H KD (.call ⟨.builtin .len,#[x],#[t]⟩):=by
 have hc:I4 P (.call ⟨.builtin .len,#[x],#[t]⟩)= .pure:=by
  unfold C7 at h;cases i:P.underlying t with
  |none=>simp[I4,i]
  |some u=>cases u<;>simp[I4,i]<;>simp[i]at h
 refine A0i hc ?_;simp only[C9,hc];rfl
def B6I(bl:Bl)(H:Heap)(l:List Nat):Prop:=∀b∈l,(b∈bl.l∧H b≠none)∧b∉bl.no
@[go_sem] theorem C7C:B6I bl H []=True:=by simp[B6I]
@[go_sem high] theorem C7D(l m:List Nat)(b:Nat):B6I ⟨l,[],m⟩ H [b]=(b∈l∧H b≠none):=by simp[B6I]
@[go_sem] theorem C8V(b o:Nat):rdB (.box b o)= [b]:=rfl
@[go_sem] theorem C9U(b s i o:Nat):rdB (.el b s i o)= [b]:=rfl
@[go_sem] theorem C9V(cs:List D):rdB (.ro cs)= []:=rfl
@[go_sem] theorem C9W(t:Nat)(x:Operand):pOp P c bl ev H KD (.load t x)=(B6I bl H (rdB (ev x))∧C9 P ev H KD (.load t x)):=by
 apply propext;unfold pOp;constructor
 ·rintro⟨e,he,h,_,hk⟩;rw[I5 (by simp[I4])]at he;simp only[I0,D1Q]at he;obtain⟨d,hd,rfl⟩:=he;have:=hk 0 trivial;have e2:(val d (rdB (ev x))).app 0 H=H:=G1 H;rw[e2]at this;exact⟨h.rd,d,hd,this⟩
 ·rintro⟨hr,d,hd,hk⟩;refine⟨val d (rdB (ev x)),by rw[I5 (by simp[I4])];simp only[I0,hd,Option.map_some],⟨hr,by simp[val],by simp[val],by simp[val]⟩,trivial,fun b _=>?_⟩;have e2:(val d (rdB (ev x))).app b H=H:=G1 H;rw[e2];exact hk
theorem B16{op:Op}{f:Nat→D}{o:Obj}(ho:o.rw=true)(hr:o9 P c bl.l ev H op=some (A0u f o))(hc:O4 P c bl.l ev H op)(h: ∀b,H b=none→KD (f b) (H.set b o)):pOp P c bl ev H KD op:=
 ⟨_,hr,⟨by simp[A0u],by simp[A0u],fun o' j=>by cases j;exact ho,by simp[A0u]⟩,hc,fun b hb=>by
  have i:H b=none:=by rcases hb with hb|hb;exact hb;simp[A0u]at hb
  have e2:(A0u f o).app b H=H.set b o:=by show (H.minus []).set b o=_;rw[G1]
  rw[e2];exact h b i⟩
theorem A22{op:Op}{f:Nat→D}{o:Obj}(hr:o9 P c bl.l ev H op=some (A0u f o))(h:pOp P c bl ev H KD op): ∀b,H b=none→KD (f b) (H.set b o):=by
 obtain⟨e,he,i,_,hk⟩:=h;rw[hr]at he;cases he;intro b hb;have:=hk b (.inl hb);have e2:(A0u f o).app b H=H.set b o:=by show (H.minus []).set b o=_;rw[G1]
 rw[e2]at this;exact this
@[go_sem] theorem C8W(t:Nat):pOp P c bl ev H KD (.alloc t)=C9 P ev H KD (.alloc t):=by
 apply propext;constructor
 ·intro h;have j:=h;obtain⟨e,he,_⟩:=j;rw[I5 (by simp[I4])]at he;simp only[I0,D1Q]at he;obtain⟨z,i,rfl⟩:=he;exact⟨z,i,A22 (f:=fun b=>.box b 0) (o:=.box z (A1h P t)) (by rw[I5 (by simp[I4])];simp only[I0,i,Option.map_some]) h⟩
 ·rintro⟨z,i,hk⟩;exact B16 (f:=fun b=>.box b 0) (o:=.box z (A1h P t)) rfl (by rw[I5 (by simp[I4])];simp only[I0,i,Option.map_some]) trivial hk
@[go_sem] theorem B9Z(t n:Nat)(ps:Array (Nat×Operand)):pOp P c bl ev H KD (.buildSlice t n ps)=C9 P ev H KD (.buildSlice t n ps):=by
 apply propext;constructor
 ·intro h;have u:=h;obtain⟨e,he,_⟩:=u;rw[I5 (by simp[I4])]at he;simp only[I0,bsE]at he;obtain⟨⟨e',sz,j⟩,m,he⟩:=D1T.1 he;split at he
  ·rename_i h1;obtain⟨z,p,he⟩:=D1T.1 he;split at he
   ·rename_i q;obtain⟨es,i,rfl⟩:=D1Q.1 he;exact⟨e',sz,j,z,es,m,h1.1,h1.2,p,q,i,A22 (f:=fun b=>.vec b sz 0 n) (o:=.vec sz es) (by rw[I5 (by simp[I4])];simp only[I0,bsE,m,D1l];rw[if_pos h1,p,D1l,if_pos q];simp only[i,Option.map_some]) h⟩
   ·cases he
  ·cases he
 ·rintro⟨e',sz,j,z,es,m,h1,r,p,q,i,hk⟩;exact B16 (f:=fun b=>.vec b sz 0 n) (o:=.vec sz es) rfl (by rw[I5 (by simp[I4])];simp only[I0,bsE,m,D1l];rw[if_pos ⟨h1,r⟩,p,D1l,if_pos q];simp only[i,Option.map_some]) trivial hk
@[go_sem] theorem C12(t:Nat)(l c':Operand):pOp P c bl ev H KD (.makeSlice t l c')=C9 P ev H KD (.makeSlice t l c'):=by
 apply propext;constructor
 ·intro h;have I:=h;obtain⟨e,he,_⟩:=I;rw[I5 (by simp[I4])]at he;simp only[I0]at he;obtain⟨e',sz,j,z,k,n,G,m,h1,p,q,r,h5,u,x,y,A,i,rfl⟩:=A5W he;exact⟨e',sz,j,z,k,n,G,m,h1,p,q,r,h5,u,x,y,A,i,A22 (f:=fun b=>.vec b sz 0 n.toNat) (o:=.vec sz (List.replicate n.toNat z)) (by rw[I5 (by simp[I4])];exact he) h⟩
 ·rintro⟨e',sz,j,z,k,n,G,m,h1,p,q,r,h5,u,x,y,A,i,hk⟩;exact B16 (f:=fun b=>.vec b sz 0 n.toNat) (o:=.vec sz (List.replicate n.toNat z)) rfl (by rw[I5 (by simp[I4])];simp only[I0];rw[h5,u];exact C2v h1 p q r x y A i) trivial hk
def C3e:D→Prop
 | .box _ _| .el _ _ _ _=>True
 |_=>False
@[go_sem] theorem C7E(b o:Nat):C3e (.box b o)=True:=rfl
@[go_sem] theorem C8X(b s i o:Nat):C3e (.el b s i o)=True:=rfl
@[go_sem] theorem C8Y(t:Nat)(a x:Operand):pOp P c bl ev H KD (.store t a x)=(C3e (ev a)∧C9 P ev H KD (.store t a x)):=by
 apply propext;have m:o9 P c bl.l ev H (.store t a x)=n8 P t (ev a) (ev x) H:=by rw[I5 (by simp[I4])];rfl
 constructor
 ·rintro⟨e,he,A,_,hk⟩;rw[m]at he;unfold n8 at he;obtain⟨r,hs,he⟩:=D1T.1 he;have fin: ∀b,rdB (ev a)= [b]→(r b).map (fun o=>(⟨[],[b],some o,some b,fun _=>.undef⟩:Ef))=some e→C9 P ev H KD (.store t a x):=by
   intro b hb h1;obtain⟨o,ho,rfl⟩:=D1Q.1 h1;obtain⟨o',u,_,p,_⟩:=A0w hs hb;rw[ho]at u;cases u;have:=hk b rfl;have e2:((⟨[],[b],some o,some b,fun _=>.undef⟩:Ef)).app b H=r:=by show (H.minus [b]).set b o=_;rw[Z4,p]
   rw[e2]at this;exact⟨r,hs,this⟩
  cases j:ev a with
  |box b off=>rw[j]at he;exact⟨trivial,fin b (by rw[j];rfl) he⟩
  |el b s i off=>rw[j]at he;exact⟨trivial,fin b (by rw[j];rfl) he⟩
  |_=>rw[j]at he;simp at he
 ·rintro⟨h1,r,hs,hk⟩;have fin: ∀b,rdB (ev a)= [b]→n8 P t (ev a) (ev x) H=(r b).map (fun o=>(⟨[],[b],some o,some b,fun _=>.undef⟩:Ef))→pOp P c bl ev H KD (.store t a x):=by
   intro b hb hst;obtain⟨o,ho,z,p,y⟩:=A0w hs hb;rw[ho,Option.map_some]at hst;refine⟨_,m.trans hst,⟨by simp,fun k hk=>?_,fun o' G=>by cases G;exact z,fun k hk=>by cases hk;simp⟩,trivial,fun k q=>?_⟩
   ·simp at hk;subst hk;exact⟨(fun h=>absurd h (by simp)),y⟩
   ·have q:k=b:=q;subst q;show KD .undef ((H.minus [k]).set k o);rw[Z4,←p];exact hk
  cases j:ev a with
  |box b off=>exact fin b (by rw[j];rfl) (by rw[j]at hs⊢;simp only[n8,hs,D1l])
  |el b s i off=>exact fin b (by rw[j];rfl) (by rw[j]at hs⊢;simp only[n8,hs,D1l])
  |_=>rw[j]at h1;exact h1.elim
def xOk(bl:Bl)(H:Heap)(l:List Nat):Prop:=(∀b∈inB bl.l l,H b≠none∧b∉bl.no)∧∀b∈S1 bl.l l,B1p (H b)=true
def C3f(bl:Bl)(b:Nat):Prop:=b∉bl.l∨b∈bl.may
def paV(o:Option Obj)(bl:Bl)(xl:List Nat)(b sz n by_:Nat)(xs:List (List D))(H:Heap)(KD:D→Heap→Prop):Prop:=match o with
 |some (.vec sz' es)=>sz'=sz∧n≤es.length∧(n+xs.length)*by_≤140737488355328∧n+xs.length≤9223372036854775807∧C3f bl b∧xOk bl H xl∧
   ∀b',(H b'=none∨b'∈b::S1 bl.l xl)→KD (.vec b' sz 0 (n+xs.length)) ((H.minus (b::S1 bl.l xl)).set b' (.vec sz (es.take n++xs)))
 |_=>False
@[go_sem] theorem B9a(bl:Bl)(i:List Nat)(b sz sz' n h:Nat)(es xs:List (List D)):paV (some (.vec sz' es)) bl i b sz n h xs H KD=(sz'=sz∧n≤es.length∧(n+xs.length)*h≤140737488355328∧n+xs.length≤9223372036854775807∧C3f bl b∧xOk bl H i∧
      ∀j,(H j=none∨j∈b::S1 bl.l i)→KD (.vec j sz 0 (n+xs.length)) ((H.minus (b::S1 bl.l i)).set j (.vec sz (es.take n++xs)))):=rfl
def paS(s:D)(bl:Bl)(xl:List Nat)(sz by_:Nat)(xs:List (List D))(H:Heap)(KD:D→Heap→Prop):Prop:=match s with
 | .nilsl=>xs.length*by_≤140737488355328∧xs.length≤9223372036854775807∧xs.isEmpty=false∧xOk bl H xl∧∀b,(H b=none∨b∈S1 bl.l xl)→KD (.vec b sz 0 xs.length) ((H.minus (S1 bl.l xl)).set b (.vec sz xs))
 | .vec b sz' lo n=>sz'=sz∧lo=0∧paV (H b) bl xl b sz n by_ xs H KD
 |_=>False
@[go_sem] theorem B9b(bl:Bl)(i:List Nat)(sz h:Nat)(xs:List (List D)):paS .nilsl bl i sz h xs H KD=(xs.length*h≤140737488355328∧xs.length≤9223372036854775807∧xs.isEmpty=false∧xOk bl H i∧∀b,(H b=none∨b∈S1 bl.l i)→KD (.vec b sz 0 xs.length) ((H.minus (S1 bl.l i)).set b (.vec sz xs))):=rfl
@[go_sem] theorem B9c(bl:Bl)(i:List Nat)(b sz sz' lo n h:Nat)(xs:List (List D)):paS (.vec b sz' lo n) bl i sz h xs H KD=(sz'=sz∧lo=0∧paV (H b) bl i b sz n h xs H KD):=rfl
def paX(o:Option (List (List D)))(s x:D)(bl:Bl)(sz by_:Nat)(H:Heap)(KD:D→Heap→Prop):Prop:=match o with
 |some xs=>paS s bl (U0 x) sz by_ xs H KD
 |none=>False
@[go_sem] theorem B6K(xs:List (List D))(s x:D)(sz h:Nat):paX (some xs) s x bl sz h H KD=paS s bl (U0 x) sz h xs H KD:=rfl
def paK(P:Program)(et:Option (Nat×Nat×Nat))(bt:R1)(s x:D)(bl:Bl)(H:Heap)(KD:D→Heap→Prop):Prop:=match et with
 |some (e,sz,by_)=>0<sz∧apT bt∧apZ (G4 P e) sz∧paX (M7 H sz x) s x bl sz by_ H KD
 |none=>False
@[go_sem] theorem B6L(e sz h:Nat)(i:R1)(s x:D):paK P (some (e,sz,h)) i s x bl H KD=(0<sz∧apT i∧apZ (G4 P e) sz∧paX (M7 H sz x) s x bl sz h H KD):=rfl
@[go_sem] theorem C7F(b sz lo n:Nat):U0 (.vec b sz lo n)= [b]:=rfl
@[go_sem] theorem C8b(sz:Nat)(es:List (List D)):U0 (.sl sz es)= []:=rfl
@[go_sem] theorem C7G(s:ByteArray):U0 (.str s)= []:=rfl
@[go_sem] theorem C7H(k:IntKind)(n:Int):U0 (.int k n)= []:=rfl
@[go_sem] theorem C50(b:Bool):U0 (.bool b)= []:=rfl
@[go_sem] theorem C7I(cs:List D):U0 (.agg cs)= []:=rfl
@[go_sem] theorem C7J(b o:Nat):U0 (.box b o)= [b]:=rfl
@[go_sem] theorem A0D(bl:List Nat):S1 bl []= []:=rfl
theorem B0J{bl:List Nat}(b:Nat)(l:List Nat)(h:b∉bl):S1 bl (b::l)=b::S1 bl l:=by simp[S1,h]
theorem B9d{bl:List Nat}(b:Nat)(l:List Nat)(h:b∈bl):S1 bl (b::l)=S1 bl l:=by simp[S1,h]
@[go_sem] theorem B3F:xOk bl H []=True:=by simp[xOk,inB,S1]
theorem B3G(b:Nat)(o:Obj)(hb:H b=some o)(hr:o.rw=true)(i:b∉bl.l∨b∉bl.no):xOk bl H [b]:=by
 refine⟨fun k hk=>?_,fun k hk=>?_⟩
 ·have h:=q0.1 hk;have:=h.1;simp at this;subst this;exact⟨by rw[hb];simp,i.resolve_left fun g=>g h.2⟩
 ·have:=(S2.1 hk).1;simp at this;subst this;rw[hb];exact hr
theorem A1P(b:Nat)(l:List Nat):H.minus (b::l)=(H.del b).minus l:=by
 funext k;unfold Heap.minus Heap.del
 by_cases h1:k=b<;>by_cases h:k∈l<;>simp[h1,h]
theorem B0K{s x:Operand}{t r:Nat}(h:paK P (G6 P t) (C7 P r) (ev s) (ev x) bl H KD):pOp P c bl ev H KD (.call ⟨.builtin .append,#[s,x],#[t,r]⟩):=by
 have p:o9 P c bl.l ev H (.call ⟨.builtin .append,#[s,x],#[t,r]⟩)=B1q P bl.l H t r (ev s) (ev x):=by rw[I5 (by simp[I4])];rfl
 unfold paK at h;split at h
 ·rename_i e sz W X;obtain⟨h1,Y,u,m⟩:=h;have A:(G4 P e).map (·.length)=some sz:=by
   unfold apZ at u;split at u
   ·rename_i z hz;rw[hz];simp[u]
   ·exact u.elim
  unfold paX at m;split at m
  ·rename_i xs G;have i:=p;unfold B1q at i;rw[X,D1l,if_pos ⟨h1,Y,A⟩,G,D1l]at i;have q: ∀(del:List Nat) (new:Option Obj) (f:Nat→D),xOk bl H (U0 (ev x))→(∀b∈del,C3f bl b∧B1p (H b)=true)→(∀o,new=some o→o.rw=true)→A58 bl H ⟨inB bl.l (U0 (ev x)),del,new,none,f⟩:=fun del new f hx hd hn=>
    ⟨fun b hb=>⟨⟨(q0.1 hb).2,(hx.1 b hb).1⟩,(hx.1 b hb).2⟩,fun b hb=>⟨fun _=>(hd b hb).1,(hd b hb).2⟩,hn,fun b hb=>by cases hb⟩
   unfold paS at m;split at m
   ·rename_i hs;obtain⟨I,J,M,y,O⟩:=m;rw[hs]at i;simp only at i;rw[if_pos ⟨I,J,M⟩]at i;exact⟨_,i,q _ _ _ y (fun b hb=>⟨.inl (S2.1 hb).2,y.2 b hb⟩) (fun o ho=>by cases ho;rfl),trivial,fun b hb=>O b hb⟩
   ·rename_i b sz' lo n hs;obtain⟨I,J,h5⟩:=m;unfold paV at h5;split at h5
    ·rename_i U es hb;obtain⟨M,y,O,k6,k7,V,k9⟩:=h5;rw[hs]at i;simp only[hb]at i;rw[if_pos ⟨I,M,J,y,O,k6⟩]at i;refine⟨_,i,q _ _ _ V (fun T j=>?_) (fun o ho=>by cases ho;rfl),trivial,fun T j=>k9 T j⟩;rcases D1j.1 j with rfl|j
     ·exact⟨k7,by rw[hb];rfl⟩
     ·exact⟨.inl (S2.1 j).2,V.2 T j⟩
    ·exact h5.elim
   ·exact m.elim
  ·exact m.elim
 ·exact h.elim
def A7A:List D→List Nat:=fun l=>l.flatMap U0
@[go_sem] theorem C7K:A7A []= []:=rfl
theorem B4U(d:D)(l:List D):A7A (d::l)=U0 d++A7A l:=by simp[A7A]
attribute [go_sem] B4U
def crK(c:CR)(H:Heap)(l:List Nat)(KD:D→Heap→Prop):Prop:=match c.new with
 |none=>KD (c.val 0) (H.minus l)
 |some o=>o.rw=true∧∀b,(H b=none∨b∈l)→KD (c.val b) ((H.minus l).set b o)
def pcA(P:Program)(c:CR)(bl:Bl)(f:D)(args:List D)(H:Heap)(KD:D→Heap→Prop):Prop:=match f with
 | .fn (.func g) first cap=>(∀b∈inB bl.l (A7A (first++args++cap)),H b≠none∧b∉bl.no)∧(∀b∈S1 bl.l (A7A (first++args++cap)),B1p (H b)=true)∧
   B5i P g (first++args++cap) H (A7A (first++args++cap)) (S1 bl.l (A7A (first++args++cap))) c∧crK c H (S1 bl.l (A7A (first++args++cap))) KD
 |_=>False
def pcB(P:Program)(c:CR)(bl:Bl)(g:Nat)(as_:List D)(l:List Nat)(H:Heap)(KD:D→Heap→Prop):Prop:=xOk bl H l∧B5i P g as_ H l (S1 bl.l l) c∧crK c H (S1 bl.l l) KD
@[go_sem] theorem C9Y(g:Nat)(first args cap:List D):pcA P c bl (.fn (.func g) first cap) args H KD=pcB P c bl g (first++args++cap) (A7A (first++args++cap)) H KD:=by
 unfold pcA pcB xOk;simp only[and_assoc]
@[go_sem] theorem C9Z(f:Operand)(args:List Operand)(p:Array Nat):pOp P c bl ev H KD (.call ⟨.value f,args.toArray,p⟩)=pcA P c bl (ev f) (args.map ev) H KD:=by
 have j:o9 P c bl.l ev H (.call ⟨.value f,args.toArray,p⟩)=I0 P c bl.l ev H (.call ⟨.value f,args.toArray,p⟩):=I5 (by simp[I4]);apply propext;unfold pcA;constructor
 ·rintro⟨e,he,i,hc,hk⟩;rw[j]at he;simp only[I0]at he;simp only[O4]at hc;split at he
  ·rename_i g first cap hf
   cases he
   (first|rw[hf]at hc⊢ |rw[hf]at hc)
   refine⟨fun b hb=>⟨(i.rd b hb).1.2,(i.rd b hb).2⟩,fun b hb=>(i.del b hb).2,hc,?_⟩;unfold crK;unfold Ef.okH Ef.app at hk;cases hn:c.new with
   |none=>simp only[hn,CR.f]at hk⊢;exact hk 0 trivial
   |some o=>
    simp only[hn,CR.f]at hk⊢;exact⟨i.new o hn,fun b hb=>hk b hb⟩
  ·cases he
 ·intro h;split at h
  ·rename_i g first cap hf
   obtain⟨h1,q,r,m⟩:=h;refine⟨⟨inB bl.l ((first++args.map ev++cap).flatMap U0),S1 bl.l ((first++args.map ev++cap).flatMap U0),c.new,none,c.f⟩,?_,⟨fun b hb=>⟨⟨(q0.1 hb).2,(h1 b hb).1⟩,(h1 b hb).2⟩,fun b hb=>⟨fun _=>.inl (S2.1 hb).2,q b hb⟩,fun o ho=>?_,by simp⟩,?_,fun b hb=>?_⟩
   ·rw[j];simp only[I0,hf]
   ·unfold crK at m;simp only at ho;rw[ho]at m;exact m.1
   ·simp only[O4,hf];exact r
   ·unfold crK at m;unfold Ef.okH at hb;unfold Ef.app;cases hn:c.new with
    |none=>simp only[hn,CR.f]at m⊢;exact m
    |some o=>
     simp only[hn,CR.f]at m hb⊢;exact m.2 b hb
  ·exact h.elim
theorem R5{g:Nat}{i:List D}{c:D}(h: ∀(H':Heap) (Q:D→Heap→Prop),(∀k cs,H k=some (.ro cs)→H' k=some (.ro cs))→Q c H'→ACalls P g i H' Q)(hk:KD c H):pcB P (.c c) bl g i [] H KD:=
 ⟨by rw[B3F];trivial,fun H' hro _=>h H' _ hro ⟨rfl,by rw[A0D,G1];exact D2i H'⟩,by rw[A0D];show KD c (H.minus []);rw[G1];exact hk⟩
theorem pc1{g b:Nat}{i:List D}{c:D}{o:Obj}(hb:H b=some o)(hr:o.rw=true)(hn:b∉bl.l)(h: ∀(H':Heap) (Q:D→Heap→Prop),(∀k cs,H k=some (.ro cs)→H' k=some (.ro cs))→H' b=some o→Q c (H'.del b)→ACalls P g i H' Q)(hk:KD c (H.del b)):pcB P (.c c) bl g i [b] H KD:=by
 have e:S1 bl.l [b]= [b]:=by rw[B0J b [] hn,A0D]
 have e2: ∀H:Heap,H.minus [b]=H.del b:=fun H=>by rw[A1P,G1]
 exact⟨B3G b o hb hr (.inl hn),fun H' hro j=>h H' _ hro (by rw[j b (by simp),hb]) ⟨rfl,by rw[e,e2];exact D2i _⟩,by rw[e];show KD c (H.minus [b]);rw[e2];exact hk⟩
theorem pcm{g:Nat}{i:List D}{f:Nat→D}{o:Obj}(ho:o.rw=true)(h: ∀(H':Heap) (Q:D→Heap→Prop),(∀k cs,H k=some (.ro cs)→H' k=some (.ro cs))→(∀b,H' b=none→Q (f b) (H'.set b o))→ACalls P g i H' Q)(hk: ∀b,H b=none→KD (f b) (H.set b o)):pcB P (.mk' f o) bl g i [] H KD:=by
 refine⟨by rw[B3F];trivial,fun H' hro _=>h H' _ hro fun b hb=>?_,?_⟩
 ·exact⟨b,.inl hb,rfl,by rw[A0D,G1];exact D2i _⟩
 ·rw[A0D];refine⟨ho,fun b hb=>?_⟩;rw[G1];exact hk b (hb.resolve_right (by simp))
theorem C3h{bl:List Nat}(b:Nat)(h:b∈bl):inB bl [b]= [b]:=by simp[inB,h]
theorem C9a{g b:Nat}{i:List D}{f:Nat→D}{o o':Obj}(hb:H b=some o)(hl:b∈bl.l)(hn:b∉bl.no)(ho:o'.rw=true)(h: ∀(H':Heap) (Q:D→Heap→Prop),(∀k cs,H k=some (.ro cs)→H' k=some (.ro cs))→H' b=some o→(∀v,H' v=none→Q (f v) (H'.set v o'))→ACalls P g i H' Q)(hk: ∀v,H v=none→KD (f v) (H.set v o')):pcB P (.mk' f o') bl g i [b] H KD:=by
 have e:S1 bl.l [b]= []:=by rw[B9d b [] hl,A0D]
 refine⟨⟨fun k hk=>?_,fun k hk=>?_⟩,fun H' hro j=>h H' _ hro (by rw[j b (by simp),hb]) fun v hv=>?_,?_⟩
 ·rw[C3h b hl]at hk;simp at hk;subst hk;exact⟨by rw[hb];simp,hn⟩
 ·rw[e]at hk;cases hk
 ·exact⟨v,.inl hv,rfl,by rw[e,G1];exact D2i _⟩
 ·rw[e];refine⟨ho,fun v hv=>?_⟩;rw[G1];exact hk v (hv.resolve_right (by simp))
end
def H8(sz n:Nat):Option Nat→D
 |none=>.nilsl
 |some c=>.vec c sz 0 n
def I3(H:Heap):Option Nat→Heap
 |none=>H
 |some c=>H.del c
def putB(H:Heap)(sz:Nat)(es:List (List D)):Option Nat→Heap
 |none=>H
 |some c=>H.set c (.vec sz es)
def OutAt(H:Heap)(sz:Nat)(es:List (List D)):Option Nat→Prop
 |none=>es= []
 |some c=>H c=some (.vec sz es)
theorem E9{H:Heap}{b:Nat}{o:Obj}(h:H b=none):(H.set b o).del b=H:=by
 funext k
 unfold Heap.del Heap.set;by_cases hk:k=b
 ·subst hk;simp[h]
 ·simp[hk]
theorem B9e(H:Heap)(ob:Option Nat):(I3 H ob).Le H:=by
 cases ob with
 |none=>exact D2i H
 |some c=>exact E6 H c
@[go_sem] theorem C51(sz n:Nat)(ob:Option Nat):(H8 sz n ob).cells= [H8 sz n ob]:=by cases ob<;>rfl
@[go_sem] theorem C7M(sz n:Nat):H8 sz n none= .nilsl:=rfl
@[go_sem] theorem L2(sz n c:Nat):H8 sz n (some c)= .vec c sz 0 n:=rfl
theorem B3H{P:Program}{t sz n:Nat}{ob:Option Nat}(h:ob=none→n=0):A5q P t (H8 sz n ob)=if C7 P t= .slice then some (.int .i64 n)else none:=by
 cases ob with
 |none=>rw[h rfl];rfl
 |some c=>rfl
section
variable {P:Program} {H:Heap} {KD:D→Heap→Prop}
theorem A2R{sz i n:Nat}{ob:Option Nat}(es:List (List D)){xs:List (List D)}(j:xs≠[])(hn:n=es.length)(hc:OutAt H sz es ob)(h1:(n+xs.length)*i≤140737488355328)(m:n+xs.length≤9223372036854775807)
  (h: ∀b',I3 H ob b'=none→KD (.vec b' sz 0 (n+xs.length)) ((I3 H ob).set b' (.vec sz (es++xs)))):apS (H8 sz n ob) sz i xs H KD:=by
 cases ob with
 |none=>
  have e:es= []:=hc;subst e;subst hn;simp only[D1O,Nat.zero_add,D2T,I3]at h1 m h;exact⟨h1,m,fun e=>absurd e j,fun _ b hb=>h b hb⟩
 |some c=>
  have e:H c=some (.vec sz es):=hc;subst hn;refine⟨rfl,.inl ⟨rfl,?_⟩⟩;rw[e];refine⟨rfl,D1b _,h1,m,fun b hb=>?_⟩;rw[D1W (D1b _)];exact h b hb
theorem ACalls.out{f n:Nat}{sz:Nat}{es:List (List D)}{ob:Option Nat}{ds:List D}{Q:D→Heap→Prop}(hn:n=es.length)(hc:OutAt H sz es ob)(h:ACalls P f (.sl sz es::ds) (I3 H ob) Q):ACalls P f (H8 sz n ob::ds) H Q:=by
 subst hn;cases ob with
 |none=>
  have e:es= []:=hc;subst e;refine ACalls.shift (args':=.sl sz []::ds) (fun w vs h1 j m=>⟨by simpa using h1,fun i d hd=>?_,m,fun _ hn=>hn⟩) h;cases i with
  |zero=>simp at hd;subst hd;exact(j 0 _ rfl).nil_sl sz
  |succ i=>exact j (i+1) d (by simpa using hd)
 |some c=>
  refine ACalls.freeze (args':=.sl sz es::ds) hc (by simp) (fun i d d' h1 j=>?_) h;cases i with
  |zero=>simp[H8]at h1 j;subst h1;subst j;exact .all
  |succ i=>simp at h1 j;rw[h1]at j;cases j;exact .same _
theorem U9{f b n sz:Nat}{es:List (List D)}{ds:List D}{Q:D→Heap→Prop}(hb:H b=some (.vec sz es))(hn:n=es.length)(h:ACalls P f (.sl sz es::ds) (H.del b) Q):ACalls P f (.vec b sz 0 n::ds) H Q:=
 ACalls.out (ob:=some b) hn hb h
theorem A0c{f b n sz:Nat}{es:List (List D)}{a:D}{ds:List D}{Q:D→Heap→Prop}(hb:H b=some (.vec sz es))(hn:n=es.length)(h:ACalls P f (a:: .sl sz es::ds) (H.del b) Q):ACalls P f (a:: .vec b sz 0 n::ds) H Q:=by
 subst hn;refine ACalls.freeze (args':=a:: .sl sz es::ds) hb (by simp) (fun i d d' h1 j=>?_) h
 match i with
 |0=>simp at h1 j;subst h1;subst j;exact .same _
 |1=>simp at h1 j;subst h1;subst j;exact .all
 |i+2=>simp at h1 j;rw[h1]at j;cases j;exact .same _
theorem Fin.out{n sz:Nat}{es:List (List D)}{ob:Option Nat}{Q:D→Heap→Prop}(hn:n=es.length)(hc:OutAt H sz es ob)(h:Fin Q (.sl sz es) (I3 H ob)):Fin Q (H8 sz n ob) H:=by
 subst hn;cases ob with
 |none=>
  have e:es= []:=hc;subst e;unfold Fin at h⊢;obtain⟨i,e,h1,j⟩:=h;exact⟨i,e,Shift.trans (fun w v hr hs=>⟨by cases hr;exact .sl0 _ _ _,hs,fun _ hn=>hn⟩) h1,j⟩
 |some c=>exact Fin.freeze hc .all h
theorem Fin.out1{n sz:Nat}{es:List (List D)}{ob:Option Nat}{ds:List D}{Q:D→Heap→Prop}(hn:n=es.length)(hc:OutAt H sz es ob)(h:Fin Q (.tuple (.sl sz es::ds)) (I3 H ob)):Fin Q (.tuple (H8 sz n ob::ds)) H:=by
 cases ob with
 |none=>
  have e:es= []:=hc;subst e;exact Fin.nilsl sz ds h
 |some c=>exact B2s hc hn h
end
theorem B4V{H:Heap}{sz:Nat}{es:List (List D)}{ob:Option Nat}(h:ob=none→es= []):OutAt (putB H sz es ob) sz es ob:=by
 cases ob with
 |none=>exact h rfl
 |some c=>simp[OutAt,putB,Heap.set]
def Rw{α :Type}(f: α →List D)(l:List α):List (List D):=l.map f
section
variable {α :Type} {f: α →List D}
@[go_sem] theorem D6(l:List α):(Rw f l).length=l.length:=by simp[Rw]
theorem B3(l:List α)(k:Nat)(h:k<l.length):(Rw f l).getD k []=f l[k]:=by simp[Rw,h]
theorem C3(l:List α)(k:Nat)(h:k<l.length):(Rw f l)[k]? =some (f l[k]):=by simp[Rw,h]
theorem A8p(l:List α)(k:Nat):(Rw f l).take k=Rw f (l.take k):=by simp[Rw]
theorem B9f(l:List α)(k:Nat):(Rw f l).drop k=Rw f (l.drop k):=by simp[Rw]
theorem O7(l m:List α):Rw f l++Rw f m=Rw f (l++m):=by simp[Rw]
theorem A0j:Rw f []= []:=rfl
theorem Y7(l:List α)(k:Nat)(x: α)(c:List D)(h:f x=c):(Rw f l).set k c=Rw f (l.set k x):=by subst h;simp[Rw,List.map_set]
theorem A6L(n:Nat)(x: α)(c:List D)(h:f x=c):List.replicate n c=Rw f (List.replicate n x):=by subst h;simp[Rw]
end
def j9(s:ByteArray):List D:=[.str s]
@[go_sem] theorem C9b(s:ByteArray):j9 s= [.str s]:=rfl
def OutIn(H:Heap)(sz:Nat)(es:List (List D))(ob:Option Nat)(Hc:Heap):Prop:=H.Le Hc∧OutAt Hc sz es ob∧∀b,ob=some b→H b=none
theorem OutIn.set{H:Heap}{sz:Nat}{es:List (List D)}{ob:Option Nat}{i:Heap}(h:OutIn H sz es ob i){b:Nat}(hb:i b=none)(o:Obj):OutIn H sz es ob (i.set b o):=by
 refine⟨h.1.trans (A0 hb),?_,h.2.2⟩;cases ob with
 |none=>exact h.2.1
 |some c=>
  have hc:i c=some (.vec sz es):=h.2.1;show (i.set b o) c=_;rw[A2 o (by rintro rfl;rw[hb]at hc;cases hc)];exact hc
theorem OutIn.le{H:Heap}{sz:Nat}{es:List (List D)}{ob:Option Nat}{i:Heap}(h:OutIn H sz es ob i):H.Le (I3 i ob):=by
 cases ob with
 |none=>exact h.1
 |some c=>
  intro k x hk;show (i.del c) k=_;rw[D0 (by rintro rfl;rw[h.2.2 _ rfl]at hk;cases hk)];exact h.1 k x hk
theorem OutIn.new{H:Heap}{sz:Nat}{es:List (List D)}{ob:Option Nat}{i:Heap}(h:OutIn H sz es ob i){b:Nat}(hb:I3 i ob b=none):H b=none:=h.le.none hb
theorem OutIn.step{H:Heap}{sz:Nat}{es:List (List D)}{ob:Option Nat}{i:Heap}(h:OutIn H sz es ob i){b:Nat}(o:Obj):(H.set b o).Le ((I3 i ob).set b o):=by
 intro k x hk;unfold Heap.set at hk⊢;split
 ·rename_i e;rw[if_pos e]at hk;exact hk
 ·rename_i e;rw[if_neg e]at hk;exact h.le k x hk
end Go.Av
namespace Go.Lin
open Go Go.Av Go.Lexs
structure LTm where
 v:ByteArray
 c:Int
 deriving DecidableEq
instance :Inhabited LTm:=⟨⟨⟨#[]⟩,0⟩⟩
structure LinV where
 t:List LTm
 k:Int
 e:Bool
 deriving DecidableEq
instance :Inhabited LinV:=⟨⟨[],0,false⟩⟩
structure VlV where
 v:ByteArray
 n:Int
 deriving DecidableEq
instance :Inhabited VlV:=⟨⟨⟨#[]⟩,0⟩⟩
abbrev J7(t:LTm):List D:=[.str t.v,.int .i64 t.c]
abbrev E8(a:LinV):List D:=[.sl 2 (Rw J7 a.t),.int .i64 a.k,.bool a.e]
abbrev vlC(x:VlV):List D:=[.str x.v,.int .i64 x.n]
theorem B17(a:LinV):E8 a= [.sl 2 (Rw J7 a.t),.int .i64 a.k,.bool a.e]:=rfl
def U3(n:Int):Prop:= -9223372036854775808≤n∧n≤9223372036854775807
structure l4(a:LinV):Prop where
 len:a.t.length≤5864062014639
 str: ∀t∈a.t,t.v.size≤140737488351232
 co: ∀t∈a.t,U3 t.c
 ko:U3 a.k
structure A7e(l:List VlV):Prop where
 len:l.length≤5864062014639
 str: ∀t∈l,t.v.size≤140737488351232
 no: ∀t∈l,U3 t.n
def W0(c:Int):Bool:=decide (33≤c)&&decide (c≤126)&&decide (c≠43)&&decide (c≠45)&&decide (c≠42)&&decide (c≠60)&&decide (c≠62)&&decide (c≠61)
def I2(l:List UInt8):Bool:=decide (l≠[])&&decide (l.length≤200)&& !V9 (nth l 0)&&l.all (ofB W0)
theorem A7f(c:Int):W0 c=true↔33≤c∧c≤126∧c≠43∧c≠45∧c≠42∧c≠60∧c≠62∧c≠61:=by simp[W0,and_assoc]
theorem A3b{c:Int}(h: ¬(33≤c∧c≤126∧c≠43∧c≠45∧c≠42∧c≠60∧c≠62∧c≠61)):W0 c=false:=by rw[←D2d,A7f];exact h
def q9(x y:ByteArray):Bool:=Op.bytesLess (B x) (B y)
theorem B6M(x:List UInt8): ∀y,Op.bytesLess x y=true↔x<y:=by
 induction x with
 |nil=>intro y;cases y<;>simp[Op.bytesLess]
 |cons a x h=>
  intro y;cases y with
  |nil=>simp[Op.bytesLess]
  |cons b y=>
   simp only[Op.bytesLess,List.cons_lt_cons_iff,D2e,D1U,D1d,beq_iff_eq,h y]
theorem A3c(x y:ByteArray):q9 x y=true↔B x<B y:=B6M _ _
theorem s8(x:ByteArray):q9 x x=false:=by
 rw[←D2d,A3c];exact List.lt_irrefl _
theorem Y8{x y z:ByteArray}(h:q9 x y=true)(g:q9 y z=true):q9 x z=true:=by
 rw[A3c]at*;exact List.lt_trans h g
theorem B9g{x y:ByteArray}(h:q9 x y=false)(i:x≠y):q9 y x=true:=by
 rw[←D2d,A3c]at h;rw[A3c];have:B x≠B y:=fun e=>i (by rw[←S_B x,←S_B y,e]);by_cases g:B y<B x
 ·exact g
 ·exact absurd (List.le_antisymm (List.not_lt.1 g) (List.not_lt.1 h)) this
def N7(n most:Int):Bool:=decide (-most≤n)&&decide (n≤most)
def A7B(l:List LTm)(i:Nat):Bool:=
 I2 (B (l.getD i default).v)&&(decide (i=0)||q9 (l.getD (i-1) default).v (l.getD i default).v)&&decide ((l.getD i default).c≠0)&&N7 (l.getD i default).c 1048576
def s9(l:List LTm):Bool:=(List.range l.length).all (A7B l)
def validL(a:LinV):Bool:=s9 a.t&&decide (a.t.length≤12)&&N7 a.k 1099511627776
def up:List ByteArray→Bool
 | []=>true
 | [_]=>true
 |x::y::l=>q9 x y&&up (y::l)
def Q5:List ByteArray→ByteArray→List ByteArray
 | [],s=>[s]
 |x::l,s=>if q9 x s=true then x::Q5 l s else if x=s then x::l else s::x::l
def O8(l:List LinV):List ByteArray:=l.flatMap fun c=>c.t.map (·.v)
def A1w(l:List LinV):List ByteArray:=(O8 l).foldl Q5 []
theorem A7g(l:List ByteArray)(s x:ByteArray):x∈Q5 l s↔x∈l∨x=s:=by
 induction l with
 |nil=>simp[Q5]
 |cons y l i=>
  unfold Q5;split
  ·simp only[D1j,i];constructor
   ·rintro(h|h|h)
    ·exact .inl (.inl h)
    ·exact .inl (.inr h)
    ·exact .inr h
   ·rintro((h|h)|h)
    ·exact .inl h
    ·exact .inr (.inl h)
    ·exact .inr (.inr h)
  ·split
   ·rename_i e;subst e;simp only[D1j];constructor
    ·exact .inl
    ·rintro(h|h)
     ·exact h
     ·exact .inl h
   ·simp only[D1j];constructor
    ·rintro(h|h)
     ·exact .inr h
     ·exact .inl h
    ·rintro(h|h)
     ·exact .inr h
     ·exact .inl h
theorem B6N{l:List ByteArray}{s:ByteArray}(h:l.Pairwise fun x y=>q9 x y=true):(Q5 l s).Pairwise fun x y=>q9 x y=true:=by
 induction l with
 |nil=>exact List.pairwise_singleton _ _
 |cons y l m=>
  unfold Q5;split
  ·rename_i h1;refine List.Pairwise.cons (fun z i=>?_) (m h.of_cons);rcases(A7g _ _ _).1 i with g|rfl
   ·exact List.rel_of_pairwise_cons h g
   ·exact h1
  ·rename_i h1;split
   ·exact h
   ·rename_i o;have j:=B9g (D2d _ ▸ h1) o;refine List.Pairwise.cons (fun z i=>?_) h;rcases D1j.1 i with rfl|i
    ·exact j
    ·exact Y8 j (List.rel_of_pairwise_cons h i)
theorem B0L(m:List ByteArray): ∀(l:List ByteArray),l.Pairwise (fun x y=>q9 x y=true)→(m.foldl Q5 l).Pairwise fun x y=>q9 x y=true:=by
 induction m with
 |nil=>exact fun l h=>h
 |cons s m i=>exact fun l h=>i _ (B6N h)
theorem A7h(m:List ByteArray)(x:ByteArray): ∀(l:List ByteArray),x∈m.foldl Q5 l↔x∈l∨x∈m:=by
 induction m with
 |nil=>intro l;simp
 |cons s m h=>
  intro l;rw[List.foldl_cons,h,A7g,D1j,or_assoc]
theorem B0M(l:List LinV):(A1w l).Pairwise fun x y=>q9 x y=true:=B0L _ _ .nil
theorem A7i(l:List LinV)(x:ByteArray):x∈A1w l↔x∈O8 l:=by unfold A1w;rw[A7h];simp
theorem A6M: ∀{l m:List ByteArray},l.Pairwise (fun x y=>q9 x y=true)→m.Pairwise (fun x y=>q9 x y=true)→(∀x,x∈l↔x∈m)→l=m
 | [],[],_,_,_=>rfl
 | [],y::m,_,_,h=>absurd ((h y).2 (D1S ..)) (by simp)
 |x::l,[],_,_,h=>absurd ((h x).1 (D1S ..)) (by simp)
 |x::l,y::m,hl,hm,h=>by
  have e:x=y:=by
   rcases D1j.1 ((h x).1 (D1S ..))with e|g
   ·exact e
   ·rcases D1j.1 ((h y).2 (D1S ..))with e|j
    ·exact e.symm
    ·have a1:=List.rel_of_pairwise_cons hm g;have a2:=List.rel_of_pairwise_cons hl j;have:=Y8 a1 a2;rw[s8]at this;cases this
  subst e;refine congrArg (x:: ·) (A6M hl.of_cons hm.of_cons fun z=>?_);constructor
  ·intro i;rcases D1j.1 ((h z).1 (D1Z _ i))with rfl|g
   ·have:=List.rel_of_pairwise_cons hl i;rw[s8]at this;cases this
   ·exact g
  ·intro i;rcases D1j.1 ((h z).2 (D1Z _ i))with rfl|g
   ·have:=List.rel_of_pairwise_cons hm i;rw[s8]at this;cases this
   ·exact g
end Go.Lin
namespace Go.Fo
open Go Go.Av Go.Lexs Go.Lin
inductive Fm where
 |mk (op:Int) (n:Int) (l:LinV) (s:ByteArray) (ks:List Fm)
namespace Fm
def op:Fm→Int|mk o _ _ _ _=>o
def n:Fm→Int|mk _ n _ _ _=>n
def l:Fm→LinV|mk _ _ l _ _=>l
def s:Fm→ByteArray|mk _ _ _ s _=>s
def ks:Fm→List Fm|mk _ _ _ _ ks=>ks
end Fm
theorem C4p(f:Fm):f= .mk f.op f.n f.l f.s f.ks:=by cases f;rfl
def C1:Fm→List D
 | .mk o n l s ks=>[.int .i64 o,.int .i64 n,.sl 2 (Rw J7 l.t),.int .i64 l.k,.bool l.e,.str s,.sl 7 (fmsC ks)]
where fmsC:List Fm→List (List D)
 | []=>[]
 |f::fs=>C1 f::fmsC fs
theorem B9h(l:List Fm):C1.fmsC l=Rw C1 l:=by
 induction l with
 |nil=>rfl
 |cons f l h=>simp only[C1.fmsC,h];rfl
theorem I6(f:Fm):C1 f= [.int .i64 f.op,.int .i64 f.n,.sl 2 (Rw J7 f.l.t),.int .i64 f.l.k,.bool f.l.e,.str f.s,.sl 7 (Rw C1 f.ks)]:=by
 cases f;simp only[C1,B9h];rfl
theorem O1{p:Fm→Prop}(h: ∀o n l s ks,(∀k∈ks,p k)→p (.mk o n l s ks)): ∀f,p f
 | .mk o n l s ks=>h o n l s ks (go ks)
where go: ∀ks:List Fm,∀k∈ks,p k
 | [],_,hk=>absurd hk D1k
 |f::fs,k,hk=>(D1j.1 hk).elim (fun e=>e ▸ O1 h f) (go fs k)
inductive FmFit:Fm→Prop
 |mk (o n:Int) (l:LinV) (s:ByteArray) (ks:List Fm) (ho:U3 o) (hn:U3 n) (hl:l4 l) (hs:s.size≤140737488351232) (hk:ks.length≤1466015503658) (h: ∀k∈ks,FmFit k):FmFit (.mk o n l s ks)
def A1x(c:Int):Bool:=decide (c≠40)&&decide (c≠41)&&decide (c≠44)&&decide (c≠33)&&decide (c≠38)&&decide (c≠124)&&decide (c≠63)
def plainB(s:ByteArray):Bool:=I2 (B s)&&(B s).all (ofB A1x)
def B0N(l:LinV):Bool:=decide (l.t= [])&&decide (l.k=0)&& !l.e
def E3(f:Fm):Bool:=
 if f.op=1 then(decide (f.n=0)||decide (f.n=1))&&decide (f.s.size=0)&&B0N f.l&&f.ks.isEmpty
 else if f.op=2 then decide (f.n=0)&&decide (f.s.size=0)&&f.ks.isEmpty&&validL f.l&&f.l.t.all fun t=>plainB t.v
 else if f.op=3 then decide (f.n=0)&&B0N f.l&&f.ks.isEmpty&&plainB f.s
 else if f.op=4 then decide (f.n=0)&&decide (f.s.size=0)&&B0N f.l&&decide (f.ks.length=1)
 else if f.op=5∨f.op=6 then decide (f.n=0)&&decide (f.s.size=0)&&B0N f.l
 else false
def J5:Fm→Nat
 | .mk _ _ _ _ ks=>1+nodesL ks
where nodesL:List Fm→Nat
 | []=>0
 |f::fs=>J5 f+nodesL fs
def Q0:Fm→Nat
 | .mk _ _ _ _ ks=>1+deepL ks
where deepL:List Fm→Nat
 | []=>0
 |f::fs=>max (Q0 f) (deepL fs)
def J1(p:Fm→Bool):Fm→Bool
 | .mk o n l s ks=>p (.mk o n l s ks)&&allK ks
where allK:List Fm→Bool
 | []=>true
 |f::fs=>J1 p f&&allK fs
def A0k:Fm→List ByteArray×List ByteArray→List ByteArray×List ByteArray
 | .mk o _ l s ks,(a,b)=>namesK ks ((l.t.map (·.v)).foldl Q5 a,if o=3 then Q5 b s else b)
where namesK:List Fm→List ByteArray×List ByteArray→List ByteArray×List ByteArray
 | [],p=>p
 |f::fs,p=>namesK fs (A0k f p)
def meetL(l m:List ByteArray):Bool:=l.any fun s=>m.any fun t=>decide (s=t)
def D8(f:Fm):Bool:=J1 E3 f&&decide (Q0 f≤60)&&decide (J5 f≤200)&& !meetL (A0k f ([],[])).1 (A0k f ([],[])).2&&decide ((A0k f ([],[])).1.length+(A0k f ([],[])).2.length≤12)
end Go.Fo
namespace Go.Av
section
variable {H Hc:Heap} {KD:D→Heap→Prop} {sz by_ n:Nat} {ob:Option Nat} {es xs:List (List D)}
theorem B3I(j:OutIn H sz es ob Hc)(m:xs≠[])(hn:n=es.length)(h1:(n+xs.length)*by_≤140737488355328)(p:n+xs.length≤9223372036854775807)
  (h: ∀b',H b'=none→I3 Hc ob b'=none→(∀o,(H.set b' o).Le ((I3 Hc ob).set b' o))→KD (.vec b' sz 0 (n+xs.length)) ((I3 Hc ob).set b' (.vec sz (es++xs)))):apS (H8 sz n ob) sz by_ xs Hc KD:=
 A2R es m hn j.2.1 h1 p fun b' i=>h b' (j.new i) i fun o=>j.step o
theorem O9{α :Type}{f: α →List D}(l:List α)(k:Nat)(h:k<l.length):Rw f (l.take (k+1))=Rw f (l.take k)++[f l[k]]:=by
 rw[D1a h];simp only[Rw,D2H,D2Y,List.map_nil]
theorem U4{α :Type}{f: α →List D}(l:List α)(k:Nat)(h:k≤l.length):(Rw f (l.take k)).length=k:=by simp[Rw];omega
end
theorem B6O{b sz:Nat}{es:List (List D)}{E0 E:Env}(h:Av.Sub E0 E): ∀p∈E0,Fz b sz es (E.get p.1) p.2:=fun p hp=>by
 rw[h.all p hp];exact .same _
theorem OutIn.less{H0 H i:Heap}{sz:Nat}{es:List (List D)}{ob:Option Nat}(h:OutIn H sz es ob i)(hl:H0.Le H):OutIn H0 sz es ob i:=⟨hl.trans h.1,h.2.1,fun b e=>hl.none (h.2.2 b e)⟩
theorem R0{Q:D→Heap→Prop}{cs cs':List D}{H:Heap}{b sz:Nat}{es:List (List D)}(hb:H b=some (.vec sz es))(hl:cs.length=cs'.length)
  (p: ∀(i:Nat) d d',cs[i]? =some d→cs'[i]? =some d'→Fz b sz es d d') (h:Fin Q (.agg cs') (H.del b)):Fin Q (.agg cs) H:=by
 unfold Fin at h⊢;obtain⟨q,d1,h1,r⟩:=h;refine⟨q,d1,Shift.trans (fun w v hr hs=>?_) h1,r⟩;refine⟨?_,hs.less (E6 H b),fun k hn=>(E6 H b).held hn⟩;cases hr with
 |agg _ vs u ho hr=>
  have key: ∀(i:Nat) d',cs'[i]? =some d'→∃d,cs[i]? =some d∧Fz b sz es d d':=fun i d' j=>by
   have x:=(D1R.1 j).1;have m:i<cs.length:=by omega
   exact⟨cs[i],D1Y m,p i _ _ (D1Y m) j⟩
  refine .agg cs' vs (by omega) (fun i d' j=>?_) (fun i d' j=>?_)
  ·obtain⟨d,hd,o⟩:=key i d' j;exact o.one (ho i d hd)
  ·obtain⟨d,hd,o⟩:=key i d' j;exact o.R hs hb (hr i d hd)
theorem C9c{P:Program}{H0:Heap}{i:D→Heap→Prop}{bl:Bl}{g b:Nat}{j:List D}{c:D}{o:Obj}(m:H0 b=none)(hr:o.rw=true)(hn:b∉bl.l)(h: ∀(H':Heap) (Q:D→Heap→Prop),(∀k cs,(H0.set b o) k=some (.ro cs)→H' k=some (.ro cs))→H' b=some o→Q c (H'.del b)→ACalls P g j H' Q)(hk:i c H0):pcB P (.c c) bl g j [b] (H0.set b o) i:=
 pc1 (A3 _ _) hr hn h (by rw[E9 m];exact hk)
theorem C7N{h:Heap}{ob:Option Nat}{i k:Nat}{x o:Obj}(h1:h k=some o)(m:ob≠some k)(j:I3 h ob i=none):((I3 h ob).set i x) k=some o:=by
 have hd:I3 h ob k=some o:=by
  cases ob with
  |none=>exact h1
  |some c=>
   show (h.del c) k=_;rw[D0 (by rintro rfl;exact m rfl)];exact h1
 rw[A2 _ (by rintro rfl;rw[hd]at j;cases j)];exact hd
theorem newK{j:Heap}{ob:Option Nat}{h:Nat}(i:I3 j ob h=none):j h=none∨ob=some h:=by
 cases ob with
 |none=>exact .inl i
 |some c=>
  change (j.del c) h=none at i;simp only[Heap.del]at i;by_cases e:h=c
  ·exact .inr (by rw[e])
  ·rw[if_neg e]at i;exact .inl i
def Apd(H0:Heap)(sz:Nat)(ob:Option Nat)(es:List (List D))(b':Nat)(H':Heap):Prop:=
 H' b'=some (.vec sz es)∧(∀q o,H0 q=some o→ob≠some q→H' q=some o)∧(H0 b'=none∨ob=some b')
theorem A6N{P:Program}{A:D→Heap→Prop}{H0:Heap}{sz p n bx:Nat}{ob:Option Nat}{o:Obj}{es xs:List (List D)}(j:H0 bx=none)(u:xs≠[])(i:OutAt H0 sz es ob)(hn:n=es.length)(h1:(n+xs.length)*p≤140737488355328)(G:n+xs.length≤9223372036854775807)
  (h: ∀b' H',Apd H0 sz ob (es++xs) b' H'→A (.vec b' sz 0 (n+xs.length)) H'):apS (H8 sz n ob) sz p xs (H0.set bx o) A:=by
 have y:ob≠some bx:=fun e=>by subst e;have:H0 bx=some (.vec sz es):=i;rw[j]at this;cases this
 have m:OutAt (H0.set bx o) sz es ob:=by
  cases ob with
  |none=>exact i
  |some c=>show Heap.set _ bx _ c=_;rw[A2 _ (fun e=>y (by rw[e]))];exact i
 refine A2R es u hn m h1 G fun b' r=>?_;refine h b' _ ⟨A3 _ _,fun q x hq z=>C7N (by rw[A2 _ (by rintro rfl;rw[j]at hq;cases hq)];exact hq) z r,?_⟩;rcases newK r with g|g
 ·exact .inl ((A0 j).none g)
 ·exact .inr g
theorem A5F{Q:D→Heap→Prop}{cs cs':List D}{x:D}{H:Heap}{b sz:Nat}{es:List (List D)}(hb:H b=some (.vec sz es))(hl:cs.length=cs'.length)
  (y: ∀(i:Nat) d d',cs[i]? =some d→cs'[i]? =some d'→Fz b sz es d d') (h:Fin Q (.tuple [.agg cs',x]) (H.del b)):Fin Q (.tuple [.agg cs,x]) H:=by
 unfold Fin at h⊢;obtain⟨z,d1,h1,A⟩:=h;refine⟨z,d1,Shift.trans (fun w v hr hs=>?_) h1,A⟩;refine⟨?_,hs.less (E6 H b),fun k hn=>(E6 H b).held hn⟩;cases hr with
 |tuple _ us r o=>
  refine .tuple [.agg cs',x] us r (fun q d' j=>?_)
  match q with
  |0=>
   cases j;have m:=o 0 (.agg cs) rfl;revert m;generalize us.getD 0 undef=v0;intro m;cases m with
   |agg _ vs G ho hr=>
    have key: ∀(i:Nat) d',cs'[i]? =some d'→∃d,cs[i]? =some d∧Fz b sz es d d':=fun i d' j=>by
     have I:=(D1R.1 j).1;have p:i<cs.length:=by omega
     exact⟨cs[i],D1Y p,y i _ _ (D1Y p) j⟩
    refine .agg cs' vs (by omega) (fun i d' j=>?_) (fun i d' j=>?_)
    ·obtain⟨d,hd,u⟩:=key i d' j;exact u.one (ho i d hd)
    ·obtain⟨d,hd,u⟩:=key i d' j;exact u.R hs hb (hr i d hd)
  |1=>cases j;exact(o 1 _ rfl).less (E6 H b)
  |q+2=>cases j
theorem A63{P:Program}{f b sz:Nat}{es:List (List D)}{args:List D}{H H':Heap}{Q:D→Heap→Prop}(hb:H b=some (.vec sz es))
  (G: ∀k o',H' k=some o'→k≠b∧∃o,H k=some o∧OFz b sz es o o') (h:ACalls P f args H' Q):ACalls P f args H Q:=by
 refine ACalls.shift (fun w vs h1 y hs=>?_) h;have m: ∀k,H.held k=false→H'.held k=false:=fun k hk=>by
  cases ho:H' k with
  |none=>exact G7 ho
  |some o'=>
   obtain⟨_,o,h1,y⟩:=G k o' ho;rw[I1 h1]at hk;rw[I1 ho];cases y<;>exact hk
 have I: ∀{d d':D} {v:Value},Fz b sz es d d'→R w H d v→R w H' d' v:=fun u hr=>(u.R hs hb hr).mono (D2p _ _) fun k _ hk=>by
  by_cases z:k=b
  ·subst z;cases ho:H' k with
   |none=>exact G7 ho
   |some o'=>exact absurd rfl (G k o' ho).1
  ·refine m k ?_;rw[←l9 (H:=H) (H':=H.del b) (k:=k) (by unfold Heap.del;rw[if_neg z])];exact hk
 refine⟨h1,fun i d hd=>I (.same d) (y i d hd),fun k o' ho=>?_,m⟩;obtain⟨_,o,h1,y⟩:=G k o' ho;have x:=hs k o h1;cases y with
 |same=>exact x.mono (D2p H w) (fun k _ hk=>m k hk) rfl
 |box cs cs' Z hl u=>
  obtain⟨c,T,lo,J,M,O,W,A,U⟩:=x;refine⟨c,T,lo,J,M,O,by omega,fun j d' q=>?_,U⟩;have Y:=(D1R.1 q).1;have hd:cs[j]? =some (cs[j]'(by omega)):=D1Y _;have r:=u j _ _ hd q;exact⟨r.one (A j _ hd).1,I r (A j _ hd).2⟩
 |vec s xs xs' hl u=>
  obtain⟨c,T,lo,J,M,O,W,A,U,X⟩:=x;refine⟨c,T,lo,J,M,O,W,by rw[←hl];exact A,fun i x' p=>?_,fun i x' j d' p q=>?_⟩
  ·have V:=(D1R.1 p).1;have hx:xs[i]? =some (xs[i]'(by omega)):=D1Y _;rw[←(u i _ _ hx p).1];exact U i _ hx
  ·have V:=(D1R.1 p).1;have hx:xs[i]? =some (xs[i]'(by omega)):=D1Y _;have hlen:=(u i _ _ hx p).1;have Y:=(D1R.1 q).1;have hd:(xs[i]'(by omega))[j]? =some ((xs[i]'(by omega))[j]'(by omega)):=D1Y _;have r:=(u i _ _ hx p).2 j _ _ hd q;exact⟨r.one (X i _ j _ hx hd).1,I r (X i _ j _ hx hd).2⟩
inductive NilR:D→D→Prop
 |same (d:D):NilR d d
 |nil (z:Nat):NilR .nilsl (.sl z [])
 |agg (cs cs':List D) (hl:cs.length=cs'.length) (h: ∀(i:Nat) d d',cs[i]? =some d→cs'[i]? =some d'→NilR d d'):NilR (.agg cs) (.agg cs')
 |tuple (cs cs':List D) (hl:cs.length=cs'.length) (h: ∀(i:Nat) d d',cs[i]? =some d→cs'[i]? =some d'→NilR d d'):NilR (.tuple cs) (.tuple cs')
 |sl (sz:Nat) (es es':List (List D)) (hl:es.length=es'.length) (h1: ∀(i:Nat) (e e':List D),es[i]? =some e→es'[i]? =some e'→e.length=e'.length)
   (h: ∀(i:Nat) (e e':List D) (j:Nat) (d d':D),es[i]? =some e→es'[i]? =some e'→e[j]? =some d→e'[j]? =some d'→NilR d d'):NilR (.sl sz es) (.sl sz es')
theorem NilR.one{d d':D}(h:NilR d d')(ho:d.one=true):d'.one=true:=by
 cases h with
 |same=>exact ho
 |nil=>rfl
 |agg=>cases ho
 |tuple=>cases ho
 |sl=>rfl
theorem E7{α β :Type}{l:List α}{m:List β}(hl:l.length=m.length){i:Nat}{y: β}(h:m[i]? =some y): ∃x,l[i]? =some x:=by
 have j:=(D1R.1 h).1;exact⟨l[i]'(by omega),D1Y _⟩
theorem NilR.R{d d':D}(h:NilR d d'): ∀{w:World} {H:Heap} {v:Value},R w H d v→R w H d' v:=by
 induction h with
 |same d=>exact fun hr=>hr
 |nil z=>intro w H v hr;cases hr;exact .sl0 _ _ _
 |agg cs cs' hl h p=>
  intro w H v hr;cases hr with
  |agg _ vs q ho hr=>
   refine .agg cs' vs (by omega) (fun i d' m=>?_) (fun i d' m=>?_)
   ·obtain⟨d,hd⟩:=E7 hl m;exact(h i d d' hd m).one (ho i d hd)
   ·obtain⟨d,hd⟩:=E7 hl m;exact p i d d' hd m (hr i d hd)
 |tuple cs cs' hl h p=>
  intro w H v hr;cases hr with
  |tuple _ vs q hr=>
   refine .tuple cs' vs (by omega) (fun i d' m=>?_);obtain⟨d,hd⟩:=E7 hl m;exact p i d d' hd m (hr i d hd)
 |sl sz es es' hl h1 h p=>
  intro w H v hr;cases hr with
  |sl0 _ a cap=>
   have:es'= []:=D1f (by simpa using hl.symm);subst this;exact .sl0 _ _ _
  |sl _ _ b off cap u hb hn hlen hcap hc ho hr=>
   rw[hl];refine .sl sz es' b off cap u hb hn (fun i e' o=>?_) (by omega) (fun i j x r=>hc i j (by omega) r) (fun i e' j d' o m=>?_) (fun i e' j d' o m=>?_)
   ·obtain⟨e,he⟩:=E7 hl o;rw[←h1 i e e' he o];exact hlen i e he
   ·obtain⟨e,he⟩:=E7 hl o;obtain⟨d,hd⟩:=E7 (h1 i e e' he o) m;exact(h i e e' j d d' he o hd m).one (ho i e j d he hd)
   ·obtain⟨e,he⟩:=E7 hl o;obtain⟨d,hd⟩:=E7 (h1 i e e' he o) m;exact p i e e' j d d' he o hd m (hr i e j d he hd)
theorem NilR.rw{α :Type}{f g: α →List D}(sz:Nat)(l:List α)(h1: ∀x∈l,(f x).length=(g x).length)(h: ∀x∈l,∀(j:Nat) d d',(f x)[j]? =some d→(g x)[j]? =some d'→NilR d d'):NilR (.sl sz (Rw f l)) (.sl sz (Rw g l)):=by
 refine .sl sz _ _ (by simp[Rw]) (fun i e e' he m=>?_) (fun i e e' j d d' he m hd p=>?_)
 ·simp only[Rw,D1e,D1Q]at he m;obtain⟨x,hx,rfl⟩:=he;obtain⟨y,o,rfl⟩:=m;rw[hx]at o;cases o;exact h1 x (D1o hx)
 ·simp only[Rw,D1e,D1Q]at he m;obtain⟨x,hx,rfl⟩:=he;obtain⟨y,o,rfl⟩:=m;rw[hx]at o;cases o;exact h x (D1o hx) j d d' hd p
theorem E5{Q:D→Heap→Prop}{d d':D}{H:Heap}(hn:NilR d d')(h:Fin Q d' H):Fin Q d H:=by
 unfold Fin at h⊢;obtain⟨i,d1,h1,j⟩:=h;exact⟨i,d1,Shift.trans (fun w v hr hs=>⟨hn.R hr,hs,fun k hk=>hk⟩) h1,j⟩
theorem j7{P:Program}{f:Nat}{args args':List D}{H:Heap}{Q:D→Heap→Prop}(hl:args.length=args'.length)(hn: ∀(i:Nat) d d',args[i]? =some d→args'[i]? =some d'→NilR d d')(h:ACalls P f args' H Q):ACalls P f args H Q:=
 ACalls.shift (args':=args') (fun w vs h1 m o=>⟨by omega,fun i d' j=>by
  obtain⟨d,hd⟩:=E7 hl j;exact(hn i d d' hd j).R (m i d hd),o,fun _ hk=>hk⟩) h
inductive View(H:Heap):D→D→Prop
 |same (d:D):View H d d
 |vec (b sz n:Nat) (es es':List (List D)) (hb:H b=some (.vec sz es)) (hn:n=es.length) (hl:es.length=es'.length) (h1: ∀(i:Nat) (e e':List D),es[i]? =some e→es'[i]? =some e'→e.length=e'.length)
   (h: ∀(i:Nat) (e e':List D) (j:Nat) (d d':D),es[i]? =some e→es'[i]? =some e'→e[j]? =some d→e'[j]? =some d'→View H d d'):View H (.vec b sz 0 n) (.sl sz es')
 |nil (sz:Nat):View H .nilsl (.sl sz [])
 |box (b:Nat) (cs cs':List D) (Z:Option TypeId) (hb:H b=some (.box cs Z)) (hl:cs.length=cs'.length) (h: ∀(i:Nat) (d d':D),cs[i]? =some d→cs'[i]? =some d'→View H d d'):View H (.box b 0) (.ro cs')
 |agg (cs cs':List D) (hl:cs.length=cs'.length) (h: ∀(i:Nat) (d d':D),cs[i]? =some d→cs'[i]? =some d'→View H d d'):View H (.agg cs) (.agg cs')
 |map (b:Nat) (kvs:List (D×D)) (hb:H b=some (.map kvs)):View H (.map b) (.fm kvs)
theorem B3J{H H':Heap}{w:World}(hs:Sat H w){b:Nat}{kvs:List (D×D)}(hb:H b=some (.map kvs))(hl:H'.Le H)(hn:H'.held b=false){v:Value}(hr:R w H (.map b) v):R w H' (.fm kvs) v:=by
 obtain⟨es,ck,j,m,o,h⟩:=hs b _ hb;cases hr;exact .fm kvs b es ck j hn m o (fun i p hp=>(h i p hp).1) (fun i p hp=>(h i p hp).2.1.less hl) (fun i p hp=>(h i p hp).2.2.less hl)
theorem View.one{H:Heap}{d d':D}(h:View H d d')(ho:d.one=true):d'.one=true:=by
 cases h with
 |same=>exact ho
 |vec=>rfl
 |nil=>rfl
 |box=>rfl
 |map=>rfl
 |agg=>cases ho
theorem View.R{H:Heap}{w:World}(hs:Sat H w){d d':D}(h:View H d d'): ∀{v:Value},R w H d v→R w (roH H) d' v:=by
 induction h with
 |same d=>exact fun hr=>hr.less (A2z H)
 |vec b sz n es es' hb hn hl h1 h r=>
  intro v hr;have q:=hs.lt hb
  --the block itself
  obtain⟨c,T,x,y,u,_,G,z,I,A⟩:=hs b _ hb;cases hr with
  |vec0 b sz lo off=>
   have:es'= []:=D1f (by omega);subst this;exact .sl0 _ _ _
  |vec _ _ _ _ cap X m J M hsz O=>
   rw[hn,hl];refine .sl sz es' b _ cap (fun i j=>c.getD (i*sz+j) Go.undef) q (d9 H b) (fun i e' p=>?_) (by omega) (fun i j U V=>?_) (fun i e' j d' p o=>?_) (fun i e' j d' p o=>?_)
   ·obtain⟨e,he⟩:=E7 hl p;rw[←h1 i e e' he p];exact I i e he
   ·have h5:(i+1)*sz≤es.length*sz:=D1x _ (by omega);rw[Nat.add_mul,Nat.one_mul]at h5;rw[Nat.zero_mul,Nat.zero_add,R3 u];have hsz:i*sz+j<c.size:=by omega
    simp[hsz]
   ·obtain⟨e,he⟩:=E7 hl p;obtain⟨d,hd⟩:=E7 (h1 i e e' he p) o;exact(h i e e' j d d' he p hd o).one (A i e j d he hd).1
   ·obtain⟨e,he⟩:=E7 hl p;obtain⟨d,hd⟩:=E7 (h1 i e e' he p) o;exact r i e e' j d d' he p hd o (A i e j d he hd).2
 |nil sz=>intro v hr;cases hr;exact .sl0 _ _ _
 |map b kvs hb=>exact fun hr=>B3J hs hb (A2z H) (d9 H b) hr
 |box b cs cs' Z hb hl h r=>
  intro v hr;have q:=hs.lt hb;obtain⟨c,T,lo,U,u,_,G,z,_⟩:=hs b _ hb;cases hr;refine .ro cs' b 0 (fun j=>c.getD j Go.undef) q (d9 H b) (fun j V=>?_) (fun j d' o=>?_) (fun j d' o=>?_)
  ·rw[Nat.zero_add,R3 u];have:j<c.size:=by omega
   simp[this]
  ·obtain⟨d,hd⟩:=E7 hl o;exact(h j d d' hd o).one (z j d hd).1
  ·obtain⟨d,hd⟩:=E7 hl o;exact r j d d' hd o (z j d hd).2
 |agg cs cs' hl h r=>
  intro v hr;cases hr with
  |agg _ vs W ho hr=>
   refine .agg cs' vs (by omega) (fun i d' o=>?_) (fun i d' o=>?_)
   ·obtain⟨d,hd⟩:=E7 hl o;exact(h i d d' hd o).one (ho i d hd)
   ·obtain⟨d,hd⟩:=E7 hl o;exact r i d d' hd o (hr i d hd)
def B3K:D→Bool
 | .tuple ds=>ds.all A7Q
 |d=>A7Q d
theorem B6Q{w:World}{H H':Heap}{d:D}{v:Value}(h:A7Q d=true)(hr:R w H d v):R w H' d v:=by
 cases hr<;>first|(cases h;done)|constructor
theorem B9i{w:World}{H H':Heap}{d:D}{v:Value}(h:B3K d=true)(hr:R w H d v):R w H' d v:=by
 cases hr with
 |tuple ds vs hl hr=>exact .tuple ds vs hl fun i d hd=>B6Q (D1s.1 h d (D1o hd)) (hr i d hd)
 |_=>first|(cases h;done)|constructor
theorem B4W{H i:Heap}{w w':World}{K:D→Heap→Prop}{v:Value}(hs:Sat H w)(q:i.Le H)(h:Post i w (fun d _=>B3K d=true∧K d (H.sub i)) v w'):Post H w K v w':=by
 obtain⟨d,x,hr,u,he,y,r,hk⟩:=h;have j:Ext H w w':=⟨he.os,he.tape,he.output,he.size,fun k hk hn=>he.block k hk (q.held hn),he.shape⟩
 have m:From w H (H.sub i):=fun k hk hn=>(A8X H i).held hn;refine⟨d,H.sub i,B9i r hr,fun b o hb=>?_,j,m,hk⟩;have hc:i.held b=false:=by
  unfold Heap.sub at hb;split at hb
  ·cases hb
  ·rename_i h;simpa using h
 have p:=A8X H i b o hb;exact(hs b o p).mono j m (he.block b (hs.lt p) hc)
theorem X5{P:Program}{f:Nat}{args args':List D}{H:Heap}{Q:D→Heap→Prop}(hl:args.length=args'.length)(hv: ∀(i:Nat) d d',args[i]? =some d→args'[i]? =some d'→View H d d')
  (h:ACalls P f args' (roH H) (fun d _=>B3K d=true∧Q d H)):ACalls P f args H Q:=by
 refine⟨h.1,fun w vs h1 o m=>?_⟩;refine(h.2 w vs (by omega) (fun i d' j=>?_) (m.less (A2z H))).mono fun e w' ⟨v,he,hp⟩=>⟨v,he,B4W m (A2z H) (by rw[C26];exact hp)⟩
 obtain⟨d,hd⟩:=E7 hl j;exact(hv i d d' hd j).R m (o i d hd)
theorem B5S{H:Heap}{n sz:Nat}{es:List (List D)}{ob:Option Nat}{ds:List D}(hn:n=es.length)(ho:OutAt H sz es ob):View H (.agg (H8 sz n ob::ds)) (.agg (.sl sz es::ds)):=by
 refine .agg _ _ rfl fun i d d' h1 h=>?_
 match i with
 |0=>
  cases h1;cases h;cases ob with
  |none=>rw[show es= []from ho];exact .nil sz
  |some b=>exact .vec b sz n es es ho hn rfl (fun i e e' h1 h=>by rw[h1]at h;cases h;rfl) (fun i e e' j d d' h1 h o m=>by rw[h1]at h;cases h;rw[o]at m;cases m;exact .same _)
 |i+1=>simp only[D1n]at h1 h;rw[h1]at h;cases h;exact .same _
theorem A9X{P:Program}{f n sz:Nat}{es:List (List D)}{ob:Option Nat}{ds m:List D}{H:Heap}{Q:D→Heap→Prop}(hn:n=es.length)(ho:OutAt H sz es ob)(h:ACalls P f (.agg (.sl sz es::ds)::m) (roH H) (fun d _=>B3K d=true∧Q d H)):
  ACalls P f (.agg (H8 sz n ob::ds)::m) H Q:=by
 refine X5 (args':=.agg (.sl sz es::ds)::m) rfl (fun i d d' h1 j=>?_) h
 match i with
 |0=>cases h1;cases j;exact B5S hn ho
 |i+1=>simp only[D1n]at h1 j;rw[h1]at j;cases j;exact .same _
end Go.Av
