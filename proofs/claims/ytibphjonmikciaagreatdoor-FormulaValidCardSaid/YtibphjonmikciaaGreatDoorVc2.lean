/- Part of the proof: what the last text builds on. No condition stands here. -/
import Derived.Test.YtibphjonmikciaaGreatDoorProg
import Derived.Test.YtibphjonmikciaaGreatDoorRows
import Derived.Test.YtibphjonmikciaaGreatDoorCards
import Derived.Test.YtibphjonmikciaaGreatDoorTie
import Derived.Test.YtibphjonmikciaaGreatDoorVc1
set_option linter.unusedSimpArgs false
set_option linter.unusedVariables false
namespace Go.Av
abbrev FEnv:=Nat→D
def FEnv.put(F:FEnv):Option Nat→D→FEnv
 |some t,d=>fun k=>if t=k then d else F k
 |none,_=>F
def FEnv.ev(F:FEnv):Operand→D
 | .tmp t=>F t
 | .const v=>D.ofValue v
 | .global g=>.glob g
 | .func f=>.fn (.func f) [] []
def S9:D→List Nat
 | .vec b _ _ _| .box b _=>[b]
 |_=>[]
def rdB:D→List Nat
 | .box b _| .el b _ _ _| .vec b _ _ _| .map b| .glob b=>[b]
 | .fn _ as_ bs=>(as_++bs).flatMap S9
 |_=>[]
theorem A12{d:D}{b:Nat}(h:b∈S9 d):b∈rdB d:=by cases d<;>simp_all[S9,rdB]
structure Ef where
 rd:List Nat
 del:List Nat
 new:Option Obj
 at_:Option Nat
 val:Nat→D
def Ef.app(e:Ef)(b:Nat)(H:Heap):Heap:=match e.new with
 |none=>H.minus e.del
 |some o=>(H.minus e.del).set b o
def Ef.okB(e:Ef)(b:Nat)(U:Nat→Prop):Prop:=match e.new,e.at_ with
 |none,_=>True
 |some _,some c=>b=c
 |some _,none=>¬U b∨b∈e.del
def Ef.used(e:Ef)(b:Nat)(U:Nat→Prop):Nat→Prop:=match e.new with
 |none=>U
 |some _=>fun k=>U k∨k=b
def B1n(o:Option Obj):Bool:=match o with
 |some o=>o.rw
 |none=>false
structure Bl where
 l:List Nat
 no:List Nat:=[]
 may:List Nat:=[]
def A4P(Bi Bj:Bl):Prop:=(∀b∈Bj.l,b∉Bj.no→b∈Bi.l∧b∉Bi.may)∧∀b∈Bi.l,b∉Bi.no→b∈Bj.l∧b∉Bj.may
structure A6A(bl:Bl)(H:Heap)(e:Ef):Prop where
 rd: ∀b∈e.rd,(b∈bl.l∧H b≠none)∧b∉bl.no
 del: ∀b∈e.del,(e.at_=none→b∉bl.l∨b∈bl.may)∧B1n (H b)=true
 new: ∀o,e.new=some o→o.rw=true
 at_: ∀b,e.at_=some b→b∈e.del
def val(d:D)(rd:List Nat):Ef:=⟨rd,[],none,none,fun _=>d⟩
def A06(f:Nat→D)(o:Obj):Ef:=⟨[],[],some o,none,f⟩
def T0(bl:List Nat)(l:List Nat):List Nat:=l.filter fun b=> !bl.contains b
def inB(bl:List Nat)(l:List Nat):List Nat:=l.filter fun b=>bl.contains b
def B1o(P:Program)(bl:List Nat)(H:Heap)(t t':TypeId)(s x:D):Option Ef:=(H6 P t).bind fun T=>
 if 0<T.2.1∧(C9 P t'= .slice∨C9 P t'= .str)∧(G2 P T.1).map (·.length)=some T.2.1 then(M7 H T.2.1 x).bind fun xs=>match s with
  | .nilsl=>if xs.length*T.2.2≤140737488355328∧xs.length≤9223372036854775807∧xs.isEmpty=false then some ⟨inB bl (S9 x),T0 bl (S9 x),some (.vec T.2.1 xs),none,fun b=>.vec b T.2.1 0 xs.length⟩else none
  | .vec b sz' lo n=>match H b with
   |some (.vec sz'' es)=>if sz'=T.2.1∧sz''=T.2.1∧lo=0∧n≤es.length∧(n+xs.length)*T.2.2≤140737488355328∧n+xs.length≤9223372036854775807 then
     some ⟨inB bl (S9 x),b::T0 bl (S9 x),some (.vec T.2.1 (es.take n++xs)),none,fun b'=>.vec b' T.2.1 0 (n+xs.length)⟩else none
   |_=>none
  |_=>none else none
def bsE(P:Program)(t:TypeId)(len:Nat)(ps:List (Nat×D)):Option Ef:=(H6 P t).bind fun T=>if 0<T.2.1∧len*T.2.1≤16777216 then(G2 P T.1).bind fun z=>
 if z.length=T.2.1 then(A4H (List.replicate len z) ps).map fun es=>A06 (fun b=>.vec b T.2.1 0 len) (.vec T.2.1 es)else none else none
def msE(P:Program)(t:TypeId)(l c:D):Option Ef:=(H6 P t).bind fun T=>if 0<T.2.1 then(G2 P T.1).bind fun z=>match l,c with
 | .int _ n,.int _ m=>if z.length=T.2.1∧0≤n∧n≤m∧(T.2.2:Int)*m≤281474976710656∧m<9223372036854775808 then some (A06 (fun b=>.vec b T.2.1 0 n.toNat) (.vec T.2.1 (List.replicate n.toNat z)))else none
 |_,_=>none else none
theorem A5X{P:Program}{t:TypeId}{l c:D}{e:Ef}(h:msE P t l c=some e): ∃e' sz d z k n i m,H6 P t=some (e',sz,d)∧0<sz∧G2 P e'=some z∧z.length=sz∧l= .int k n∧c= .int i m∧0≤n∧n≤m∧(d:Int)*m≤281474976710656∧m<9223372036854775808∧
  e=A06 (fun b=>.vec b sz 0 n.toNat) (.vec sz (List.replicate n.toNat z)):=by
 unfold msE at h;obtain⟨⟨e',sz,d⟩,j,h⟩:=D08.1 h;split at h
 ·rename_i h1;obtain⟨z,o,h⟩:=D08.1 h;split at h
  ·split at h
   ·rename_i g;cases h;exact⟨e',sz,d,z,_,_,_,_,j,h1,o,g.1,rfl,rfl,g.2.1,g.2.2.1,g.2.2.2.1,g.2.2.2.2,rfl⟩
   ·cases h
  ·cases h
 ·cases h
theorem C2n{P:Program}{t:TypeId}{e' sz d:Nat}{z:List D}{k e:IntKind}{n m:Int}(g:H6 P t=some (e',sz,d))(h1:0<sz)(h:G2 P e'=some z)(i:z.length=sz)(j:0≤n)(o:n≤m)(h5:(d:Int)*m≤281474976710656)(p:m<9223372036854775808):
  msE P t (.int k n) (.int e m)=some (A06 (fun b=>.vec b sz 0 n.toNat) (.vec sz (List.replicate n.toNat z))):=by
 unfold msE;rw[g,D1Q,if_pos h1,h,D1Q];simp only[];rw[if_pos ⟨i,j,o,h5,p⟩]
def t8(P:Program)(t:TypeId)(a x:D)(H:Heap):Option Ef:=(Z0 P t a x H).bind fun H'=>match a with
 | .box b _| .el b _ _ _=>(H' b).map fun o=>⟨[],[b],some o,some b,fun _=>.undef⟩
 |_=>none
structure CR where
 new:Option Obj
 val:Nat→D
def CR.c(d:D):CR:=⟨none,fun _=>d⟩
def CR.f(c:CR):Nat→D:=match c.new with
 |none=>fun _=>c.val 0
 |some _=>c.val
def CR.mk'(f:Nat→D)(o:Obj):CR:=⟨some o,f⟩
def I4(P:Program)(c:CR)(bl:List Nat)(ev:Operand→D)(H:Heap)(op:Op):Option Ef:=match op with
 | .load t x=>(A0B P t (ev x) H).map fun d=>val d (rdB (ev x))
 | .lookup t m k ok=>(A1S P t (ev m) (ev k) ok H).map fun d=>val d (rdB (ev m))
 | .alloc t=>(G2 P t).map fun z=>A06 (fun b=>.box b 0) (.box z (A1t P t))
 | .box _ x=>if(ev x).cells.all D.one=true then some (A06 (fun b=>.box b 0) (.box (ev x).cells))else none
 | .buildSlice t len parts=>bsE P t len (parts.toList.map fun p=>(p.1,ev p.2))
 | .makeSlice t l c=>msE P t (ev l) (ev c)
 | .makeMap _ none=>some (A06 (fun b=>.map b) (.map []))
 | .store t a x=>t8 P t (ev a) (ev x) H
 | .call ⟨.builtin .append,args,ts⟩=>match ts.toList,args.toList with
  | [t,t'],[s,x]=>B1o P bl H t t' (ev s) (ev x)
  |_,_=>none
 | .call ⟨.value f,args,ts⟩=>match ev f with
  | .fn (.func _) first cap=>some ⟨inB bl ((first++args.toList.map ev++cap).flatMap S9),T0 bl ((first++args.toList.map ev++cap).flatMap S9),c.new,none,c.f⟩
  |_=>none
 |_=>none
def u0(P:Program)(c:CR)(bl:List Nat)(ev:Operand→D)(H:Heap)(op:Op):Option Ef:=if J0 P op= .pure then(L5 P ev op).map fun d=>val d []else I4 P c bl ev H op
def CR.post(c:CR)(H':Heap)(del:List Nat)(d:D)(H'':Heap):Prop:=match c.new with
 |none=>d=c.val 0∧(H'.minus del).Le H''
 |some o=>∃b,(H' b=none∨b∈del)∧d=c.val b∧((H'.minus del).set b o).Le H''
def B5j(P:Program)(g:Nat)(as_:List D)(H:Heap)(foot del:List Nat)(c:CR):Prop:=
 ∀H':Heap,(∀k cs,H k=some (.ro cs)→H' k=some (.ro cs))→(∀b∈foot,H' b=H b)→ACalls P g as_ H' (c.post H' del)
def P1(P:Program)(c:CR)(bl:List Nat)(ev:Operand→D)(H:Heap)(op:Op):Prop:=match op with
 | .call ⟨.value f,args,ts⟩=>match ev f with
  | .fn (.func g) first cap=>B5j P g (first++args.toList.map ev++cap) H ((first++args.toList.map ev++cap).flatMap S9) (T0 bl ((first++args.toList.map ev++cap).flatMap S9)) c
  |_=>False
 |_=>True
section
variable {P:Program} {c:CR} {bl:List Nat} {bb Bi Bj:Bl} {ev ev':Operand→D} {H H':Heap}
theorem u7{l:List Nat}{b:Nat}:b∈inB bl l↔b∈l∧b∈bl:=by simp[inB]
theorem T1{l:List Nat}{b:Nat}:b∈T0 bl l↔b∈l∧b∉bl:=by simp[T0]
theorem A24{l:List Operand}(h: ∀x∈l,ev x=ev' x):l.map ev=l.map ev':=List.map_congr_left h
theorem A6B{l:List (Nat×Operand)}(h: ∀x∈l.map (·.2),ev x=ev' x):(l.map fun p=>(p.1,ev p.2))=l.map fun p=>(p.1,ev' p.2):=
 List.map_congr_left fun p hp=>by rw[h p.2 (D1u.2 ⟨p,hp,rfl⟩)]
theorem A13{op:Op}(hc:J0 P op= .pure)(h: ∀x∈op.operands.toList,ev x=ev' x):L5 P ev op=L5 P ev' op:=by
 cases op
 case build t parts=>
  simp only[L5,A6B (ev:=ev) (ev':=ev') (l:=parts.toList) (fun x hx=>h x (by simpa [Op.operands]using hx))]
 case slice t x lo hi m=>
  have hx:=h x (by simp[Op.operands]);have j:lo.map ev=lo.map ev':=by
   cases lo with
   |none=>rfl
   |some l=>simp only[Option.map_some,h l (by simp[Op.operands])]
  have o:hi.map ev=hi.map ev':=by
   cases hi with
   |none=>rfl
   |some l=>simp only[Option.map_some,h l (by simp[Op.operands])]
  cases m<;>simp only[L5,hx,j,o]
 case makeFunc fn first cap=>
  simp only[L5,A24 (l:=first.toList) (fun x hx=>h x (by simp[Op.operands];exact .inl (by simpa using hx))),A24 (l:=cap.toList) (fun x hx=>h x (by simp[Op.operands];exact .inr (by simpa using hx)))]
 case call cc=>
  obtain⟨callee,args,g⟩:=cc;cases callee with
  |value f=>simp[J0]at hc
  |invoke r m=>simp[J0]at hc
  |builtin b=>
   have i: ∀x∈args.toList,ev x=ev' x:=fun x hx=>h x (by simp[Op.operands,Call.operands]at*;exact hx);cases b<;>try(simp[J0]at hc;done)
   case len=>
    simp only[L5];cases h1:g[0]? with
    |none=>rfl
    |some t=>
     cases p:args[0]? with
     |none=>rfl
     |some x=>simp only[i x (by rw[D1b];exact Array.mem_of_getElem? p)]
   case cap=>
    simp only[L5];cases h1:g[0]? with
    |none=>rfl
    |some t=>
     cases p:args[0]? with
     |none=>rfl
     |some x=>simp only[Option.map_some,i x (by rw[D1b];exact Array.mem_of_getElem? p)]
   case min=>simp only[L5,A24 i]
   case max=>simp only[L5,A24 i]
 all_goals first
  |rfl
  |(simp only[Op.operands,Array.toList_toArray,D1O,D1P,or_false,d,e]at h;simp only[L5,h];done)
  |(simp only[Op.operands]at h;simp at h;simp only[L5,h];done)
  |(simp[J0]at hc;done)
theorem U6{op:Op}(hc:J0 P op= .pure):u0 P c bl ev H op=(L5 P ev op).map fun d=>val d []:=if_pos hc
theorem I5{op:Op}(hc:J0 P op≠ .pure):u0 P c bl ev H op=I4 P c bl ev H op:=if_neg hc
theorem A0D{op:Op}(h: ∀x∈op.operands.toList,ev x=ev' x):u0 P c bl ev H op=u0 P c bl ev' H op:=by
 by_cases hc:J0 P op= .pure
 ·rw[U6 hc,U6 hc,A13 hc h]
 ·rw[I5 hc,I5 hc];cases op
  case load t x=>simp only[I4,h x (by simp[Op.operands])]
  case lookup t m k ok=>simp only[I4,h m (by simp[Op.operands]),h k (by simp[Op.operands])]
  case box t x=>simp only[I4,h x (by simp[Op.operands])]
  case makeSlice t l c=>simp only[I4,h l (by simp[Op.operands]),h c (by simp[Op.operands])]
  case buildSlice t n parts=>simp only[I4,A6B (ev:=ev) (ev':=ev') (l:=parts.toList) (fun x hx=>h x (by simpa [Op.operands]using hx))]
  case store t a x=>simp only[I4,h a (by simp[Op.operands]),h x (by simp[Op.operands])]
  case call cc=>
   obtain⟨callee,args,e⟩:=cc;cases callee with
   |value f=>
    have g:=h f (by simp[Op.operands,Call.operands]);have i:=A24 (ev:=ev) (ev':=ev') (l:=args.toList) (fun x hx=>h x (by simp[Op.operands,Call.operands];exact .inr (by simpa using hx)));simp only[I4,g,i]
   |invoke r m=>simp[I4]
   |builtin b=>
    cases b
    case append=>
     unfold I4;simp only;split
     ·rename_i t j s x h1 d;rw[h s (by simp[Op.operands,Call.operands,←D1b,d]),h x (by simp[Op.operands,Call.operands,←D1b,d])]
     ·rfl
    all_goals rfl
  case makeMap t r=>cases r<;>simp[I4]
  all_goals first
   |rfl
theorem u8{op:Op}(h: ∀x∈op.operands.toList,ev x=ev' x):P1 P c bl ev H op=P1 P c bl ev' H op:=by
 cases op
 case call cc=>
  obtain⟨callee,args,d⟩:=cc;cases callee with
  |value f=>
   have e:=h f (by simp[Op.operands,Call.operands]);have g:=A24 (ev:=ev) (ev':=ev') (l:=args.toList) (fun x hx=>h x (by simp[Op.operands,Call.operands];exact .inr (by simpa using hx)));simp only[P1,e,g]
  |_=>rfl
 all_goals rfl
def B2w(ev:Operand→D)(op:Op):List Nat:=op.operands.toList.flatMap fun x=>rdB (ev x)
theorem N6{op:Op}{x:Operand}{b:Nat}(hx:x∈op.operands.toList)(hb:b∈rdB (ev x)):b∈B2w ev op:=List.mem_flatMap.2 ⟨x,hx,hb⟩
theorem A90{sz:Nat}{x:D}{es:List (List D)}(h:M7 H sz x=some es)(d: ∀b∈S9 x,H' b=H b):M7 H' sz x=some es:=by
 cases x<;>simp only[M7]at h⊢ <;>try exact h
 rename_i b s lo n;rw[d b (by simp[S9])];exact h
theorem A7N{x:D}{cs:List D}(h:A4G H x=some cs)(d: ∀b∈rdB x,H' b=H b):A4G H' x=some cs:=by
 cases x<;>simp only[A4G]at h⊢ <;>try exact h
 all_goals (rw[d _ (by simp[rdB])];exact h)
theorem B4I{x:D}{kvs:List (D×D)}(h:Y3 H x=some kvs)(d: ∀b∈rdB x,H' b=H b):Y3 H' x=some kvs:=by
 cases x<;>simp only[Y3]at h⊢ <;>try exact h
 all_goals (rw[d _ (by simp[rdB])];exact h)
theorem A25{op:Op}{e:Ef}(h:u0 P c bl ev H op=some e)(q: ∀b,b∈e.rd∨b∈e.del→H' b=H b):u0 P c bl ev H' op=some e:=by
  by_cases hc:J0 P op= .pure
  · rw[U6 hc]at h⊢;exact h
  · rw[I5 hc]at h⊢
    cases op
    case load t x=>
      simp only[I4,D05]at h⊢;obtain⟨d,g,rfl⟩:=h;refine⟨d,?_,rfl⟩;unfold A0B at g⊢;obtain⟨s,hs,g⟩:=D08.1 g;obtain⟨cs,u,g⟩:=D08.1 g;rw[hs,D1Q,A7N u (fun b hb=>q b (.inl hb))];exact g
    case lookup t m k ok=>
      simp only[I4,D05]at h⊢;obtain⟨d,g,rfl⟩:=h;refine⟨d,?_,rfl⟩;unfold A1S at g⊢;obtain⟨T,U,g⟩:=D08.1 g;rw[U,D1Q];split at g
      · rename_i hk
        rw[if_pos hk];obtain⟨z,X,g⟩:=D08.1 g;obtain⟨kvs,I,g⟩:=D08.1 g;rw[X,D1Q,B4I I (fun b hb=>q b (.inl hb))];exact g
      · cases g
    case alloc t=>exact h
    case box t x=>exact h
    case makeSlice t l c=>exact h
    case buildSlice t n parts=>exact h
    case store t a x=>
      simp only[I4,t8]at h⊢;obtain⟨Y,hs,h⟩:=D08.1 h
      have key: ∀b,(ev a= .box b 0∨True)→rdB (ev a)= [b]→H' b=H b→∃O,Z0 P t (ev a) (ev x) H'=some O∧O b=Y b:=by
        intro b _ J hb;unfold Z0 at hs⊢;split at hs
        · rename_i j
          rw[if_pos j];split at hs
          · rename_i L off y
            have : L = b := by have:rdB (ev a)= [L]:=by rw[y];rfl
                               rw[J]at this;simpa using this.symm
            subst this;rw[hb];split at hs
            · rename_i cs Z u
              split at hs
              · rename_i A
                cases hs;refine⟨_,by rw[if_pos A],?_⟩;simp[Heap.set]
              · cases hs
            · cases hs
          · rename_i L sz i off y
            have : L = b := by have:rdB (ev a)= [L]:=by rw[y];rfl
                               rw[J]at this;simpa using this.symm
            subst this;rw[hb];split at hs
            · rename_i sz' es u
              split at hs
              · rename_i A
                cases hs;refine⟨_,by rw[if_pos A],?_⟩;simp[Heap.set]
              · cases hs
            · cases hs
          · cases hs
        · cases hs
      cases C:ev a with
      |box b off=>
        rw[C]at h;simp only at h;obtain⟨o,ho,rfl⟩:=D05.1 h;obtain⟨O,G,V⟩:=key b (.inr trivial) (by rw[C];rfl) (q b (.inr (by simp)));rw[C]at G;rw[G,D1Q];simp only[V,ho,Option.map_some]
      |el b sz i off=>
        rw[C]at h;simp only at h;obtain⟨o,ho,rfl⟩:=D05.1 h;obtain⟨O,G,V⟩:=key b (.inr trivial) (by rw[C];rfl) (q b (.inr (by simp)));rw[C]at G;rw[G,D1Q];simp only[V,ho,Option.map_some]
      |_=>rw[C]at h;simp at h
    case call cc=>
      obtain⟨callee,args,a0⟩:=cc;cases callee with
      |value f=>exact h
      |invoke r m=>simp[I4]at h
      |builtin b=>
        cases b
        case append=>
          unfold I4 at h⊢;simp only at h⊢;split at h
          · rename_i t t' s x h1 G
            unfold B1o at h⊢;obtain⟨T,U,h⟩:=D08.1 h;rw[U,D1Q];split at h
            · rename_i j
              rw[if_pos j];obtain⟨xs,W,h⟩:=D08.1 h;have hx: ∀b,b∈S9 (ev x)→(b∈e.rd∨b∈e.del)→H' b=H b:=fun b _ hb=>q b hb
              have M: ∀b∈S9 (ev x),b∈e.rd∨b∈e.del:=by
                intro b hb;split at h
                · split at h
                  · cases h
                    by_cases p:b∈bl
                    · exact .inl (u7.2 ⟨hb,p⟩)
                    · exact .inr (T1.2 ⟨hb,p⟩)
                  · cases h
                · split at h
                  · split at h
                    · cases h
                      by_cases p:b∈bl
                      · exact .inl (u7.2 ⟨hb,p⟩)
                      · exact .inr (D1E _ (T1.2 ⟨hb,p⟩))
                    · cases h
                  · cases h
                · cases h
              rw[A90 W (fun b hb=>q b (M b hb)),D1Q];cases hs:ev s with
              |vec b sz' lo n=>
                rw[hs]at h;simp only at h⊢
                have hb:H' b=H b:=by
                  split at h
                  · split at h
                    · cases h;exact q b (.inr (by simp))
                    · cases h
                  · cases h
                rw[hb];exact h
              |_=>rw[hs]at h;exact h
            · cases h
          · cases h
        all_goals cases h
    case makeMap t r=>
      cases r with
      |none=>exact h
      |some r=>simp[I4]at h
    all_goals cases h
theorem A3b{op:Op}{e:Ef}(h:P1 P c bl ev H op)(hr:u0 P c bl ev H op=some e)(hro: ∀k cs,H' k=some (.ro cs)→H k=some (.ro cs))(d: ∀k cs,H k=some (.ro cs)→H' k=some (.ro cs))(j: ∀b,b∈e.rd∨b∈e.del→H' b=H b):P1 P c bl ev H' op:=by
 cases op
 case call cc=>
  obtain⟨callee,args,m⟩:=cc;cases callee with
  |value f=>
   rw[I5 (by simp[J0])]at hr;simp only[P1,I4]at h hr⊢;split at h
   ·rename_i g first cap hf
    rw[hf]at hr;simp only[D1Y]at hr;subst hr;intro o h1 p;refine h o (fun k cs hk=>h1 k cs (d k cs hk)) (fun b hb=>?_);rw[p b hb];by_cases i:b∈bl
    ·exact j b (.inl (u7.2 ⟨hb,i⟩))
    ·exact j b (.inr (T1.2 ⟨hb,i⟩))
   ·exact h
  |_=>exact h
 all_goals exact h
theorem B4J{op:Op}{e:Ef}(h:u0 P c bl ev H op=some e): ∀b,b∈e.rd∨b∈e.del→b∈B2w ev op:=by
 by_cases hc:J0 P op= .pure
 ·rw[U6 hc]at h;obtain⟨d,_,rfl⟩:=D05.1 h;intro b hb;simp[val]at hb
 ·rw[I5 hc]at h;cases op
  case load t x=>
   simp only[I4,D05]at h;obtain⟨d,j,rfl⟩:=h;intro b hb;simp[val]at hb;exact N6 (x:=x) (by simp[Op.operands]) hb
  case lookup t m k ok=>
   simp only[I4,D05]at h;obtain⟨d,j,rfl⟩:=h;intro b hb;simp[val]at hb;exact N6 (x:=m) (by simp[Op.operands]) hb
  case alloc t=>
   simp only[I4,D05]at h;obtain⟨d,j,rfl⟩:=h;intro b hb;simp[A06]at hb
  case box t x=>
   simp only[I4]at h;split at h
   ·cases h;intro b hb;simp[A06]at hb
   ·cases h
  case makeSlice t l c=>
   simp only[I4]at h;obtain⟨_,_,_,_,_,_,_,_,_,_,_,_,_,_,_,_,_,_,rfl⟩:=A5X h;intro b hb;simp[A06]at hb
  case buildSlice t n parts=>
   simp only[I4,bsE]at h;obtain⟨T,G,h⟩:=D08.1 h;split at h
   ·obtain⟨z,L,h⟩:=D08.1 h;split at h
    ·obtain⟨es,I,rfl⟩:=D05.1 h;intro b hb;simp[A06]at hb
    ·cases h
   ·cases h
  case store t a x=>
   simp only[I4,t8]at h;obtain⟨M,hs,h⟩:=D08.1 h;cases q:ev a with
   |box b off=>
    rw[q]at h;simp only at h;obtain⟨o,ho,rfl⟩:=D05.1 h;intro k hk;simp at hk;subst hk;exact N6 (x:=a) (by simp[Op.operands]) (by rw[q];simp[rdB])
   |el b sz i off=>
    rw[q]at h;simp only at h;obtain⟨o,ho,rfl⟩:=D05.1 h;intro k hk;simp at hk;subst hk;exact N6 (x:=a) (by simp[Op.operands]) (by rw[q];simp[rdB])
   |_=>rw[q]at h;simp at h
  case call cc=>
   obtain⟨callee,args,u⟩:=cc;cases callee with
   |value f=>
    simp only[I4]at h;split at h
    ·rename_i g first cap hf
     cases h;intro b hb;have y:b∈(first++args.toList.map ev++cap).flatMap S9:=by
      rcases hb with hb|hb
      ·exact(u7.1 hb).1
      ·exact(T1.1 hb).1
     obtain⟨d,j,p⟩:=List.mem_flatMap.1 y;simp only[D1M,D1u]at j;rcases j with(j|⟨x,hx,rfl⟩)|j
     ·exact N6 (x:=f) (by simp[Op.operands,Call.operands]) (by rw[hf];exact List.mem_flatMap.2 ⟨d,by simp[j],p⟩)
     ·exact N6 (x:=x) (by simp[Op.operands,Call.operands];exact .inr (by simpa using hx)) (A12 p)
     ·exact N6 (x:=f) (by simp[Op.operands,Call.operands]) (by rw[hf];exact List.mem_flatMap.2 ⟨d,by simp[j],p⟩)
    ·cases h
   |invoke r m=>simp[I4]at h
   |builtin b=>
    cases b
    case append=>
     unfold I4 at h;simp only at h;split at h
     ·rename_i t O s x h1 C;have hs:s∈(Op.call ⟨.builtin .append,args,u⟩).operands.toList:=by simp[Op.operands,Call.operands,←D1b,C]
      have hx:x∈(Op.call ⟨.builtin .append,args,u⟩).operands.toList:=by simp[Op.operands,Call.operands,←D1b,C]
      unfold B1o at h;obtain⟨T,G,h⟩:=D08.1 h;split at h
      ·obtain⟨xs,J,h⟩:=D08.1 h;split at h
       ·split at h
        ·cases h;intro b hb;rcases hb with hb|hb
         ·exact N6 hx (A12 (u7.1 hb).1)
         ·exact N6 hx (A12 (T1.1 hb).1)
        ·cases h
       ·rename_i U sz' lo n A;split at h
        ·split at h
         ·cases h;intro b hb;rcases hb with hb|hb
          ·exact N6 hx (A12 (u7.1 hb).1)
          ·rcases D1O.1 hb with rfl|hb
           ·exact N6 hs (by rw[A];simp[rdB])
           ·exact N6 hx (A12 (T1.1 hb).1)
         ·cases h
        ·cases h
       ·cases h
      ·cases h
     ·cases h
    all_goals cases h
  case makeMap t r=>
   cases r with
   |none=>simp only[I4,D1Y]at h;subst h;intro b hb;simp[A06]at hb
   |some r=>simp[I4]at h
  all_goals cases h
abbrev Kf:=FEnv→Heap→(Nat→Prop)→Prop
def I2(gs:List (Option Nat))(j:Nat):Option Nat:=(gs[j]?).getD none
def A14(E:Env)(s:Option Nat)(want:Bool)(run skip:Env→Prop):Prop:=match s with
 |none=>skip E
 |some s=>(E.get s= .tuple []∧skip E)∨∃b,E.get s= .bool b∧(b=want→run ((s,.bool want)::E))∧(b= !want→skip ((s,.bool (!want))::E))
def A15(gs:List (Option Nat))(F:FEnv):Option (Nat×Bool)→Option Bool
 |none=>some true
 |some (j,want)=>match I2 gs j with
  |none=>some false
  |some s=>match F s with
   | .tuple []=>some false
   | .bool b=>some (b==want)
   |_=>none
def A0a(P:Program)(c:CR)(bl:Bl)(o:Oper)(K:Kf):Kf:=fun F H U=>∃e,u0 P c bl.l F.ev H o.op=some e∧A6A bl H e∧P1 P c bl.l F.ev H o.op∧
 ∀b,e.okB b U→K (F.put o.dst (e.val b)) (e.app b H) (e.used b U)
def A0b(P:Program)(gs:List (Option Nat))(c:CR)(bl:Bl)(o:Oper)(K:Kf):Kf:=fun F H U=>(A15 gs F o.guard=some true∧A0a P c bl o K F H U)∨(A15 gs F o.guard=some false∧K (F.put o.dst (.tuple [])) H U)
theorem A1V{o:Oper}{K d:Kf}{F:FEnv}{H:Heap}{U:Nat→Prop}(h: ∀v H U,K (F.put o.dst v) H U→d (F.put o.dst v) H U)(hk:A0a P c bb o K F H U):A0a P c bb o d F H U:=
 let ⟨e,h2,h3,h4,h5⟩:=hk;⟨e,h2,h3,h4,fun b hb=>h _ _ _ (h5 b hb)⟩
theorem A1W{d:List (Option Nat)}{o:Oper}{K e:Kf}(h: ∀F H U,K F H U→e F H U){F:FEnv}{H:Heap}{U:Nat→Prop}(hk:A0b P d c bb o K F H U):A0b P d c bb o e F H U:=
 hk.imp (fun hk=>⟨hk.1,A1V (fun _ _ _=>h _ _ _) hk.2⟩) fun hk=>⟨hk.1,h _ _ _ hk.2⟩
theorem C2o{F:FEnv}{dst:Option Tmp}{d:D}{x:Operand}(h: ∀t,dst=some t→x≠ .tmp t):(F.put dst d).ev x=F.ev x:=by
 cases dst with
 |none=>rfl
 |some t=>
  cases x with
  |tmp u=>
   have:t≠u:=fun e=>h t rfl (by rw[e]);simp[FEnv.ev,FEnv.put,this]
  |_=>rfl
theorem Q9{F:FEnv}{ops:Array Oper}{o:Oper}{dst:Option Tmp}{d:D}(h: ∀t,dst=some t→t∉o.looksAt ops): ∀x∈o.op.operands.toList,(F.put dst d).ev x=F.ev x:=fun x hx=>
 C2o fun t g e=>h t g (by subst e;exact List.mem_append_left _ (List.mem_filterMap.2 ⟨.tmp t,hx,rfl⟩))
theorem A16{F:FEnv}{x y:Option Tmp}{d d':D}(h: ∀t,x=some t→y≠some t):(F.put x d).put y d'=(F.put y d').put x d:=by
 funext k
 cases x with
 |none=>rfl
 |some t=>
  cases y with
  |none=>rfl
  |some u=>
   have:t≠u:=fun e=>h t rfl (by rw[e]);simp only[FEnv.put];by_cases h1:t=k<;>by_cases g:u=k<;>simp[h1,g];exact absurd (h1.trans g.symm) this
structure Dom(H:Heap)(U:Nat→Prop):Prop where
 dom: ∀b,H b≠none→U b
 fin: ∀l:List Nat,∃b,¬U b∧b∉l
theorem Dom.app{H:Heap}{U:Nat→Prop}(h:Dom H U){e:Ef}{b:Nat}(hb:e.okB b U):Dom (e.app b H) (e.used b U):=by
 have hm: ∀k,(H.minus e.del) k≠none→U k:=fun k hk=>h.dom k fun i=>hk (by unfold Heap.minus;split;rfl;exact i);unfold Ef.app Ef.used;cases hn:e.new with
 |none=>exact⟨hm,h.fin⟩
 |some o=>
  refine⟨fun k hk=>?_,fun l=>?_⟩
  ·by_cases d:k=b
   ·exact .inr d
   ·simp only[Heap.set,if_neg d]at hk;exact .inl (hm k hk)
  ·obtain⟨x,h1,g⟩:=h.fin (b::l);simp only[D1O,not_or]at g;exact⟨x,fun hx=>hx.elim h1 g.1,g.2⟩
theorem A2Y{e:Ef}{b k:Nat}{H:Heap}(d:k∉e.del)(hb:e.new≠none→k≠b):e.app b H k=H k:=by
 unfold Ef.app;cases hn:e.new with
 |none=>simp[Heap.minus,d]
 |some o=>simp[Heap.set,Heap.minus,d,hb (by rw[hn];simp)]
theorem B5k{e:Ef}{b k:Nat}{H:Heap}{cs:List D}(h:A6A bb H e)(hk:e.app b H k=some (.ro cs)):H k=some (.ro cs):=by
 unfold Ef.app at hk;have hm:(H.minus e.del) k=some (.ro cs)→H k=some (.ro cs):=fun hk=>by
  unfold Heap.minus at hk;split at hk
  ·cases hk
  ·exact hk
 cases hn:e.new with
 |none=>rw[hn]at hk;exact hm hk
 |some o=>
  rw[hn]at hk;simp only[Heap.set]at hk;split at hk
  ·cases hk;have:=h.new _ hn;simp[Obj.rw]at this
  ·exact hm hk
theorem B2x{e:Ef}{b k:Nat}{H:Heap}{U:Nat→Prop}{cs:List D}(h:A6A bb H e)(j: ∀b,H b≠none→U b)(hb:e.okB b U)(hk:H k=some (.ro cs)):e.app b H k=some (.ro cs):=by
 have i:k∉e.del:=fun i=>by have:=(h.del k i).2;rw[hk]at this;simp[B1n,Obj.rw]at this
 rw[A2Y i fun hn he=>?_]
 ·exact hk
 ·subst he;unfold Ef.okB at hb;cases d:e.new with
  |none=>exact hn d
  |some o=>
   rw[d]at hb;cases g:e.at_ with
   |none=>
    rw[g]at hb;rcases hb with hb|hb
    ·exact hb (j k (by rw[hk];simp))
    ·exact i hb
   |some c=>
    rw[g]at hb;subst hb;exact i (h.at_ _ g)
theorem B5l{i j:Ef}{bi e:Nat}{H:Heap}(h1: ∀b∈i.del,b∉j.del)(g:i.new≠none→j.new≠none→bi≠e)(h:i.new≠none→bi∉j.del)(d:j.new≠none→e∉i.del):j.app e (i.app bi H)=i.app bi (j.app e H):=by
 funext k
 unfold Ef.app;cases q:i.new with
 |none=>
  cases m:j.new with
  |none=>simp only[Heap.minus];by_cases x:k∈i.del<;>by_cases y:k∈j.del<;>simp[x,y]
  |some o=>
   rw[m]at d;have d:=d (by simp);simp only[Heap.minus,Heap.set];by_cases z:k=e
   ·subst z;simp[d]
   ·by_cases x:k∈i.del<;>by_cases y:k∈j.del<;>simp[x,y,z]
 |some r=>
  rw[q]at g h;have h:=h (by simp);cases m:j.new with
  |none=>
   simp only[Heap.minus,Heap.set];by_cases z:k=bi
   ·subst z;simp[h]
   ·by_cases x:k∈i.del<;>by_cases y:k∈j.del<;>simp[x,y,z]
  |some o=>
   rw[m]at g d;have d:=d (by simp);have g:=g (by simp) (by simp);simp only[Heap.minus,Heap.set];by_cases z:k=bi
   ·subst z;simp[h,g]
   ·by_cases p:k=e
    ·subst p;simp[d,z]
    ·by_cases x:k∈i.del<;>by_cases y:k∈j.del<;>simp[x,y,z,p]
theorem A91{e:Ef}{b k:Nat}{U:Nat→Prop}(h:U k):e.used b U k:=by
 unfold Ef.used;cases e.new with
 |none=>exact h
 |some o=>exact .inl h
theorem B5m{e:Ef}{b:Nat}{U:Nat→Prop}(h:e.new≠none):e.used b U b:=by
 unfold Ef.used;cases hn:e.new with
 |none=>exact absurd hn h
 |some o=>exact .inr rfl
theorem used_inv{e:Ef}{b k:Nat}{U:Nat→Prop}(h:e.used b U k):U k∨(e.new≠none∧k=b):=by
 unfold Ef.used at h;cases hn:e.new with
 |none=>rw[hn]at h;exact .inl h
 |some o=>rw[hn]at h;exact h.imp id fun h=>⟨by simp,h⟩
theorem B4K{i j:Ef}{bi d:Nat}{U:Nat→Prop}:j.used d (i.used bi U)=i.used bi (j.used d U):=by
 unfold Ef.used;cases i.new<;>cases j.new<;>try rfl
 funext k
 apply propext;simp only[or_assoc,or_comm (a:=k=bi)]
def A07(P:Program)(oi oj:Op):Bool:=(!A1O oi||J0 P oj== .pure)&&(!A1O oj||J0 P oi== .pure)
theorem A92{o:Op}{e:Ef}{ev:Operand→D}{H:Heap}(h:u0 P c bl ev H o=some e)(hs:A1O o=false):e.at_=none:=by
 by_cases hc:J0 P o= .pure
 ·rw[U6 hc]at h;obtain⟨d,_,rfl⟩:=D05.1 h;rfl
 ·rw[I5 hc]at h;cases o
  case load t x=>simp only[I4,D05]at h;obtain⟨d,_,rfl⟩:=h;rfl
  case lookup t m k ok=>simp only[I4,D05]at h;obtain⟨d,_,rfl⟩:=h;rfl
  case alloc t=>simp only[I4,D05]at h;obtain⟨d,_,rfl⟩:=h;rfl
  case box t x=>simp only[I4]at h;split at h<;>cases h;rfl
  case makeSlice t l c=>
   simp only[I4]at h;obtain⟨_,_,_,_,_,_,_,_,_,_,_,_,_,_,_,_,_,_,rfl⟩:=A5X h;rfl
  case buildSlice t n parts=>
   simp only[I4,bsE]at h;obtain⟨T,g,h⟩:=D08.1 h;split at h
   ·obtain⟨z,q,h⟩:=D08.1 h;split at h
    ·obtain⟨es,i,rfl⟩:=D05.1 h;rfl
    ·cases h
   ·cases h
  case store t a x=>simp[A1O]at hs
  case call cc=>
   obtain⟨callee,args,j⟩:=cc;cases callee with
   |value f=>
    simp only[I4]at h;split at h<;>cases h;rfl
   |invoke r m=>simp[I4]at h
   |builtin b=>
    cases b
    case append=>
     unfold I4 at h;simp only at h;split at h
     ·unfold B1o at h;obtain⟨T,g,h⟩:=D08.1 h;split at h
      ·obtain⟨xs,p,h⟩:=D08.1 h;split at h
       ·split at h<;>cases h;rfl
       ·split at h
        ·split at h<;>cases h;rfl
        ·cases h
       ·cases h
      ·cases h
     ·cases h
    all_goals cases h
  case makeMap t r=>
   cases r with
   |none=>simp only[I4,D1Y]at h;subst h;rfl
   |some r=>simp[I4]at h
  all_goals cases h
theorem A2Z{o:Op}{e:Ef}{ev:Operand→D}{H:Heap}(h:u0 P c bl ev H o=some e)(hc:J0 P o= .pure):e.rd= []∧e.del= []∧e.new=none:=by
 rw[U6 hc]at h;obtain⟨d,_,rfl⟩:=D05.1 h;exact⟨rfl,rfl,rfl⟩
theorem B1p{ops:Array Oper}{X oj:Oper}{ci cj:CR}{K:Kf}{F:FEnv}{H:Heap}{U:Nat→Prop}(c5:X.apart ops oj=true)(G:A07 P X.op oj.op=true)(hB:A4P Bi Bj)(hD:Dom H U)
  (h:A0a P ci Bi X (A0a P cj Bj oj K) F H U):A0a P cj Bj oj (A0a P ci Bi X K) F H U:=by
 obtain⟨c6,a7⟩:=hB;obtain⟨a1,a2,a3⟩:=Oper.apart_spec c5;obtain⟨j,ri,m,Y,hi⟩:=h;simp only[A07,D09,D2J,Bool.not_eq_true',beq_iff_eq]at G
 --a name for the first one's block that the second one does not name
 obtain⟨I,a9,b1⟩: ∃I,j.okB I U∧(j.new≠none→j.at_=none→I∉B2w F.ev oj.op∧¬U I):=by
  obtain⟨x,b2,c7⟩:=hD.fin (B2w F.ev oj.op);cases hn:j.new with
  |none=>exact⟨x,by unfold Ef.okB;rw[hn];trivial,fun h=>absurd rfl h⟩
  |some o=>
   cases q:j.at_ with
   |none=>exact⟨x,by unfold Ef.okB;rw[hn,q];exact .inl b2,fun _ _=>⟨c7,b2⟩⟩
   |some y=>exact⟨y,by unfold Ef.okB;rw[hn,q],fun _ h=>by cases h⟩
 have O: ∀y,j.at_=some y→J0 P oj.op= .pure:=fun y hy=>by
  rcases G.1 with h|h
  ·rw[A92 ri h]at hy;cases hy
  ·exact h
 obtain⟨p,rj,u,a0,_⟩:=hi I a9;have C:u0 P cj Bj.l F.ev (j.app I H) oj.op=some p:=by rw[←rj];exact(A0D (Q9 a1)).symm
 have c8:P1 P cj Bj.l F.ev (j.app I H) oj.op:=by rw[←u8 (Q9 (F:=F) (d:=j.val I) a1)];exact a0
 have b3: ∀y,p.at_=some y→J0 P X.op= .pure:=fun y hy=>by
  rcases G.2 with h|h
  ·rw[A92 C h]at hy;cases hy
  ·exact h
 --what the second one names,the first one lets be
 have b4: ∀b,b∈p.rd∨b∈p.del→j.new≠none→b≠I:=fun b hb hn he=>by
  subst he;cases q:j.at_ with
  |none=>exact(b1 hn q).1 (B4J C b hb)
  |some y=>
   obtain⟨e1,e2,_⟩:=A2Z C (O y q);rw[e1,e2]at hb;simp at hb
 have J: ∀b∈p.del,b∉j.del:=fun b hb e=>by
  have h1:=(u.del b hb).2;have h2:j.app I H b=none:=by
   unfold Ef.app;cases hn:j.new with
   |none=>simp[Heap.minus,e]
   |some o=>simp[Heap.set,Heap.minus,e,b4 b (.inr hb) (by rw[hn];simp)]
  rw[h2]at h1;cases h1
 have a4: ∀b∈p.rd,b∉j.del:=fun b hb e=>by
  cases q:j.at_ with
  |none=>
   have V:=c6 b (u.rd b hb).1.1 (u.rd b hb).2;rcases(m.del b e).1 q with g|g
   ·exact g V.1
   ·exact V.2 g
  |some y=>rw[(A2Z C (O y q)).1]at hb;cases hb
 have z: ∀b,b∈p.rd∨b∈p.del→j.app I H b=H b:=fun b hb=>A2Y (hb.elim (a4 b) (J b)) (b4 b hb);have b6:u0 P cj Bj.l F.ev H oj.op=some p:=A25 C fun b hb=>(z b hb).symm;have r:A6A Bj H p:=⟨fun b hb=>⟨⟨(u.rd b hb).1.1,by rw[←z b (.inl hb)];exact(u.rd b hb).1.2⟩,(u.rd b hb).2⟩,fun b hb=>⟨(u.del b hb).1,by rw[←z b (.inr hb)];exact(u.del b hb).2⟩,u.new,u.at_⟩
 have c9:P1 P cj Bj.l F.ev H oj.op:=A3b c8 C (fun k cs hk=>B2x m hD.dom a9 hk) (fun k cs hk=>B5k m hk) (fun b hb=>(z b hb).symm);refine⟨p,b6,r,c9,fun L i=>?_⟩
 --the first one behind the second one
 have b7: ∀b,B1n (H b)=true→U b:=fun b hb=>hD.dom b fun h=>by rw[h]at hb;cases hb
 have a5: ∀b,b∈j.rd∨b∈j.del→p.new≠none→b≠L:=fun b hb hn he=>by
  subst he;unfold Ef.okB at i;cases W:p.new with
  |none=>exact hn W
  |some o=>
   rw[W]at i;cases q:p.at_ with
   |none=>
    rw[q]at i;rcases i with i|i
    ·rcases hb with hb|hb
     ·exact i (hD.dom b (m.rd b hb).1.2)
     ·exact i (b7 b (m.del b hb).2)
    ·rcases hb with hb|hb
     ·have V:=a7 b (m.rd b hb).1.1 (m.rd b hb).2;rcases(r.del b i).1 q with g|g
      ·exact g V.1
      ·exact V.2 g
     ·exact J b i hb
   |some y=>
    obtain⟨e1,e2,_⟩:=A2Z ri (b3 y q);rw[e1,e2]at hb;simp at hb
 have b8: ∀b,b∈j.rd∨b∈j.del→b∉p.del:=fun b hb i=>by
  rcases hb with hb|hb
  ·cases q:p.at_ with
   |none=>
    have V:=a7 b (m.rd b hb).1.1 (m.rd b hb).2;rcases(r.del b i).1 q with g|g
    ·exact g V.1
    ·exact V.2 g
   |some y=>rw[(A2Z ri (b3 y q)).1]at hb;cases hb
  ·exact J b i hb
 have A: ∀b,b∈j.rd∨b∈j.del→p.app L H b=H b:=fun b hb=>A2Y (b8 b hb) (a5 b hb);have d0:u0 P ci Bi.l (F.put oj.dst (p.val L)).ev (p.app L H) X.op=some j:=by
  rw[A0D (Q9 a3)];exact A25 ri A
 have b9:A6A Bi (p.app L H) j:=⟨fun b hb=>⟨⟨(m.rd b hb).1.1,by rw[A b (.inl hb)];exact(m.rd b hb).1.2⟩,(m.rd b hb).2⟩,fun b hb=>⟨(m.del b hb).1,by rw[A b (.inr hb)];exact(m.del b hb).2⟩,m.new,m.at_⟩
 have d2:P1 P ci Bi.l (F.put oj.dst (p.val L)).ev (p.app L H) X.op:=by
  rw[u8 (Q9 a3)];exact A3b Y ri (fun k cs hk=>B5k r hk) (fun k cs hk=>B2x r hD.dom i hk) A
 refine⟨j,d0,b9,d2,fun bi e=>?_⟩
 --the names are apart
 have c0:j.okB bi U:=by
  unfold Ef.okB at e⊢;cases hn:j.new with
  |none=>trivial
  |some o=>
   rw[hn]at e;cases q:j.at_ with
   |none=>
    rw[q]at e;exact e.imp (fun h hU=>h (A91 hU)) id
   |some y=>rw[q]at e;exact e
 have c1:j.new≠none→p.new≠none→bi≠L:=fun hn hm he=>by
  subst he;unfold Ef.okB at e;cases M:j.new with
  |none=>exact hn M
  |some o=>
   rw[M]at e;cases q:j.at_ with
   |none=>
    rw[q]at e;rcases e with e|e
    ·exact e (B5m hm)
    ·exact a5 bi (.inr e) hm rfl
   |some y=>exact hm (A2Z C (O y q)).2.2
 have c2: ∀b,b∈p.rd∨b∈p.del→j.new≠none→b≠bi:=fun b hb hn he=>by
  subst he;unfold Ef.okB at e;cases M:j.new with
  |none=>exact hn M
  |some o=>
   rw[M]at e;cases q:j.at_ with
   |none=>
    rw[q]at e;rcases e with e|e
    ·apply e;have:U b:=by
      rcases hb with hb|hb
      ·exact hD.dom b (r.rd b hb).1.2
      ·exact b7 b (r.del b hb).2
     exact A91 this
    ·exact b8 b (.inr e) (by rcases hb with hb|hb;exact absurd e (a4 b hb);exact hb)
   |some y=>
    obtain⟨e1,e2,_⟩:=A2Z C (O y q);rw[e1,e2]at hb;simp at hb
 obtain⟨T,c3,d6,d7,hj⟩:=hi bi c0;have a6: ∀b,b∈p.rd∨b∈p.del→j.app bi H b=H b:=fun b hb=>A2Y (hb.elim (a4 b) (J b)) (c2 b hb);have d3:T=p:=by
  rw[A0D (Q9 a1)]at c3;have:=A25 b6 a6;rw[c3]at this;exact Option.some.inj this
 subst d3;have c4:T.okB L (j.used bi U):=by
  unfold Ef.okB at i⊢;cases hn:T.new with
  |none=>trivial
  |some o=>
   rw[hn]at i;cases q:T.at_ with
   |none=>
    rw[q]at i;refine i.imp (fun h hU=>?_) id;rcases used_inv hU with hU|⟨d4,hU⟩
    ·exact h hU
    ·exact c1 d4 (by rw[hn];simp) hU.symm
   |some y=>rw[q]at i;exact i
 have:=hj L c4;rw[A16 a2,B5l (fun b hb d5=>J b d5 hb) c1 (fun hn hb=>c2 bi (.inr hb) hn rfl) (fun hn hb=>a5 L (.inr hb) hn rfl),B4K]at this;exact this
abbrev P2(ops:Array Oper):List (Option Nat):=ops.toList.map (·.dst)
theorem B2y(ops:Array Oper)(j:Nat):I2 (P2 ops) j=(ops[j]?).bind (·.dst):=by
 unfold I2;rw[D1J];cases d:ops[j]? with
 |none=>simp[d]
 |some o=>simp[d]
theorem A93{ops:Array Oper}{F:FEnv}{o:Oper}{dst:Option Tmp}{d:D}(h: ∀t,dst=some t→t∉o.looksAt ops):A15 (P2 ops) (F.put dst d) o.guard=A15 (P2 ops) F o.guard:=by
 cases m:o.guard with
 |none=>rfl
 |some p=>
  obtain⟨j,i⟩:=p;unfold A15;simp only[];rw[B2y];cases hs:(ops[j]?).bind (·.dst)with
  |none=>rfl
  |some s=>
   simp only[];cases dst with
   |none=>rfl
   |some t=>
    have g:t≠s:=fun e=>h t rfl (by subst e;simp[Oper.looksAt,m,hs]);simp only[FEnv.put,if_neg g]
theorem B4L{ops:Array Oper}{i oj:Oper}{u A:CR}{K:Kf}{F:FEnv}{H:Heap}{U:Nat→Prop}(m:i.apart ops oj=true)(j:A07 P i.op oj.op=true)(L:A4P Bi Bj)(J:Dom H U)
  (h:A0b P (P2 ops) u Bi i (A0b P (P2 ops) A Bj oj K) F H U):A0b P (P2 ops) A Bj oj (A0b P (P2 ops) u Bi i K) F H U:=by
 obtain⟨a1,a2,a3⟩:=Oper.apart_spec m;have p: ∀v,A15 (P2 ops) (F.put i.dst v) oj.guard=A15 (P2 ops) F oj.guard:=fun v=>A93 a1;have z: ∀v,A15 (P2 ops) (F.put oj.dst v) i.guard=A15 (P2 ops) F i.guard:=fun v=>A93 a3;rcases h with⟨hr,h⟩|⟨hr,h⟩
 ·
  cases q:A15 (P2 ops) F oj.guard with
  |none=>
   exfalso;obtain⟨e,_,_,_,h5⟩:=h;obtain⟨x,hx,_⟩:=J.fin [];obtain⟨b,hb⟩: ∃b,e.okB b U:=by
    unfold Ef.okB;cases e.new with
    |none=>exact⟨x,trivial⟩
    |some o=>
     cases e.at_ with
     |none=>exact⟨x,.inl hx⟩
     |some y=>exact⟨y,rfl⟩
   rcases h5 b hb with⟨g,_⟩|⟨g,_⟩<;>rw[p,q]at g<;>cases g
  |some r=>
   cases r with
   |true=>
    have C:A0a P u Bi i (A0a P A Bj oj K) F H U:=A1V (fun v H U hk=>by
     rcases hk with⟨_,hk⟩|⟨g,_⟩
     ·exact hk
     ·rw[p,q]at g;cases g) h
    exact .inl ⟨q,A1V (fun v H U hk=>.inl ⟨by rw[z];exact hr,hk⟩) (B1p m j L J C)⟩
   |false=>
    have C:A0a P u Bi i (fun F H U=>K (F.put oj.dst (.tuple [])) H U) F H U:=A1V (fun v H U hk=>by
     rcases hk with⟨g,_⟩|⟨_,hk⟩
     ·rw[p,q]at g;cases g
     ·exact hk) h
    refine .inr ⟨q,.inl ⟨by rw[z];exact hr,?_⟩⟩;obtain⟨e,G,I,h5,g⟩:=C;exact⟨e,by rw[A0D (Q9 a3)];exact G,I,by rw[u8 (Q9 a3)];exact h5,fun b hb=>by rw[←A16 a2];exact g b hb⟩
 ·
  rcases h with⟨g,h⟩|⟨g,h⟩
  ·rw[p]at g;refine .inl ⟨g,?_⟩;obtain⟨e,G,I,h5,M⟩:=h;refine⟨e,by rw[←G];exact(A0D (Q9 a1)).symm,I,by rw[←u8 (Q9 (F:=F) (d:=.tuple []) a1)];exact h5,fun b hb=>.inr ⟨by rw[z];exact hr,?_⟩⟩;rw[←A16 a2];exact M b hb
  ·rw[p]at g;exact .inr ⟨g,.inr ⟨by rw[z];exact hr,by rw[←A16 a2];exact h⟩⟩
variable {ops:Array Oper} {md:Region.Mode} {cs:Nat→CR} {bs:Nat→Bl}
def sE(P:Program)(cs:Nat→CR)(bs:Nat→Bl)(ops:Array Oper)(i:Nat)(K:Kf):Kf:=match ops[i]? with
 |none=>K
 |some o=>A0b P (P2 ops) (cs i) (bs i) o K
def B4M(P:Program)(cs:Nat→CR)(bs:Nat→Bl)(md:Region.Mode)(ops:Array Oper)(K:Kf):Nat→Array Bool→Kf
 |0,listed=>fun F H U=>Region.ready md ops listed= []∧K F H U
 |fuel+1,listed=>fun F H U=>(Region.ready md ops listed= []→K F H U)∧∀i∈Region.ready md ops listed,sE P cs bs ops i (B4M P cs bs md ops K fuel (listed.setIfInBounds i true)) F H U
theorem B1q{e:Ef}{H:Heap}{U:Nat→Prop}(d:Dom H U): ∃b,e.okB b U:=by
 obtain⟨x,hx,_⟩:=d.fin [];unfold Ef.okB;cases e.new with
 |none=>exact⟨x,trivial⟩
 |some o=>
  cases e.at_ with
  |none=>exact⟨x,.inl hx⟩
  |some y=>exact⟨y,rfl⟩
theorem B4N{o:Oper}{K:Kf}{F:FEnv}{H:Heap}{U:Nat→Prop}(d:Dom H U)(h:A0a P c bb o K F H U):A0a P c bb o (fun F H U=>Dom H U∧K F H U) F H U:=
 let ⟨e,h2,h3,h4,h5⟩:=h;⟨e,h2,h3,h4,fun b hb=>⟨d.app hb,h5 b hb⟩⟩
theorem A94{d:List (Option Nat)}{o:Oper}{F:FEnv}{H:Heap}{U:Nat→Prop}(g:Dom H U)(h:A0b P d c bb o (fun _ _ _=>False) F H U):False:=by
 rcases h with⟨_,e,_,_,_,h5⟩|⟨_,h⟩
 ·obtain⟨b,hb⟩:=B1q (e:=e) g;exact h5 b hb
 ·exact h
theorem A7O{d:List (Option Nat)}{o:Oper}{K:Kf}{F:FEnv}{H:Heap}{U:Nat→Prop}(e:Dom H U)(h:A0b P d c bb o K F H U):A0b P d c bb o (fun F H U=>Dom H U∧K F H U) F H U:=
 h.imp (fun h=>⟨h.1,B4N e h.2⟩) fun h=>⟨h.1,e,h.2⟩
theorem B1r{K:Kf}{i:Nat}{q:Oper}{W:Nat→Prop}(O:ops[i]? =some q)(V:Closed md ops i W):
  ∀(fuel:Nat) (d:Array Bool) (F:FEnv) (H:Heap) (U:Nat→Prop),Dom H U→(∀j,W j→d.getD j false=false)→
   (∀j oj,ops[j]? =some oj→¬W j→d.getD j true=false→(q.apart ops oj=true∧A07 P q.op oj.op=true)∧A4P (bs i) (bs j))→
   i∈Region.ready md ops d→A0b P (P2 ops) (cs i) (bs i) q (B4M P cs bs md ops K fuel (d.setIfInBounds i true)) F H U→B4M P cs bs md ops K (fuel+1) d F H U:=by
 intro fuel
 induction fuel with
 |zero=>
  intro d F H U G _ _ hr h;refine⟨fun I=>(by rw[I]at hr;cases hr),fun j x=>?_⟩;by_cases g:j=i
  ·subst g;unfold sE;simp only[O];exact h
  ·exfalso;refine A94 G (A1W (fun F H U hk=>?_) h);have:=ready_mono x g;rw[hk.1]at this;cases this
 |succ fuel X=>
  intro d F H U G y m hr h;refine⟨fun I=>(by rw[I]at hr;cases hr),fun j x=>?_⟩;by_cases g:j=i
  ·subst g;unfold sE;simp only[O];exact h
  ·obtain⟨p,oj,r,_⟩:=mem_ready.1 x;have z:=V.not_ready y x g;obtain⟨⟨J,u⟩,L⟩:=m j oj r z p;have A: ∀k,W k→(d.setIfInBounds j true).getD k false=false:=fun k hk=>by
    rw[W5 (fun e:j=k=>z (by rw[e];exact hk))];exact y k hk
   have o: ∀k ok,ops[k]? =some ok→¬W k→(d.setIfInBounds j true).getD k true=false→(q.apart ops ok=true∧A07 P q.op ok.op=true)∧A4P (bs i) (bs k):=fun k ok hk M T=>by
    refine m k ok hk M ?_;by_cases C:j=k
    ·subst C;exact p
    ·rw[getD_set_ne true C]at T;exact T
   have h1:A0b P (P2 ops) (cs i) (bs i) q (A0b P (P2 ops) (cs j) (bs j) oj (B4M P cs bs md ops K fuel ((d.setIfInBounds i true).setIfInBounds j true))) F H U:=A1W (fun F H U hk=>by
    have:=hk.2 j (ready_mono x g);unfold sE at this;simp only[r]at this;exact this) h
   have Y:=A7O G (B4L J u L G h1);unfold sE;simp only[r];refine A1W (fun F H U hk=>X (d.setIfInBounds j true) F H U hk.1 A o (ready_mono hr (Ne.symm g)) ?_) Y;rw[Array.setIfInBounds_comm _ _ g];exact hk.2
def A7P(P:Program)(gs:List (Option Nat))(cs:Nat→CR)(bs:Nat→Bl)(K:Kf):Nat→List Oper→Kf
 |_,[]=>K
 |k,o::l=>A0b P gs (cs k) (bs k) o (A7P P gs cs bs K (k+1) l)
def A5Y(P:Program)(ops:Array Oper)(oi oj:Oper):Bool:=oi.apart ops oj&&A07 P oi.op oj.op
def A2a(P:Program)(ops:Array Oper)(oi:Oper):List Oper→List Bool→Bool
 | [],_=>true
 |o::l,b::W=>(b||A5Y P ops oi o)&&A2a P ops oi l W
 |_::_,[]=>false
def A5Z(P:Program)(ops:Array Oper):Nat→List Oper→Bool
 |_,[]=>true
 |k,o::l=>(o.after.all fun e=> !Region.binds .any e||e.on<k)&&A2a P ops o l (Y4 k l [])&&A5Z P ops (k+1) l
def B2z(P:Program)(ops:Array Oper):Bool:=A5Z P ops 0 ops.toList
def B4O:(Nat→Bl)→Nat→List Oper→Prop
 |_,_,[]=>True
 |bs,k,o::l=>(∀i,i<l.length→(Y4 k l [])[i]? ≠some true→A4P (bs k) (bs (k+1+i)))∧B4O bs (k+1) l
theorem A26(bl:List Nat): ∀(l:List Oper) (k:Nat),B4O (fun _=>⟨bl,[],[]⟩) k l
 | [],_=>trivial
 |_::l,k=>⟨fun i _ _=>⟨fun b h _=>⟨h,(by simp)⟩,fun b h _=>⟨h,(by simp)⟩⟩,A26 bl l (k+1)⟩
theorem okRestE_at{e:Oper}: ∀(l:List Oper) (W:List Bool),A2a P ops e l W=true→∀(i:Nat) (o:Oper),l[i]? =some o→W[i]? =some true∨A5Y P ops e o=true
 | [],_,_,i,o,h=>by simp at h
 |o'::l,[],h,_,_,_=>by simp[A2a]at h
 |o'::l,b::W,h,0,o,d=>by
  simp[A2a]at h d;subst d;rcases h.1 with h|h
  ·exact .inl (by simp[h])
  ·exact .inr h
 |o'::l,b::W,h,i+1,o,d=>by
  simp[A2a]at h d;simpa using okRestE_at l W h.2 i o d
theorem A95{K:Kf}: ∀(l:List Oper) (k:Nat) (d:Array Bool),(∀j,l[j]? =ops[k+j]?)→(∀j,d.getD j false=decide (j<k))→(d.size=ops.size)→
  A5Z P ops k l=true→B4O bs k l→∀F H U,Dom H U→A7P P (P2 ops) cs bs K k l F H U→B4M P cs bs .any ops K l.length d F H U:=by
 intro l
 induction l with
 |nil=>
  intro k d hl u hsz _ _ F H U _ h;refine⟨?_,h⟩;cases hr:Region.ready .any ops d with
  |nil=>rfl
  |cons x xs=>
   exfalso;have hx:x∈Region.ready .any ops d:=by rw[hr];simp
   obtain⟨O,o,ho,_⟩:=mem_ready.1 hx;have:=u x;rw[K8 O]at this;have hk:k≤x:=by simpa using this
   have:=hl (x-k);rw[show k+(x-k)=x from by omega,ho]at this;simp at this
 |cons o l ih=>
  intro k d hl u hsz T V F H U hD h;obtain⟨a5,a6⟩:=V;have O:ops[k]? =some o:=by simpa using(hl 0).symm
  have b2:k<ops.size:=(D1L.1 O).1;simp only[A5Z,D09]at T;obtain⟨⟨he,hr⟩,y⟩:=T;have z: ∀j,l[j]? =ops[k+1+j]? :=fun j=>by have:=hl (j+1);simpa [Nat.add_assoc,Nat.add_comm 1 j]using this
  have p:k∈Region.ready .any ops d:=by
   rw[mem_ready];refine⟨?_,o,O,fun e A hb=>?_⟩
   ·have:=u k;simp at this;have C:k<d.size:=by omega
    simp[C]at this⊢;exact this
   ·rw[u];rw[Array.all_eq_true_iff_forall_mem]at he;have:=he e A;simp[hb]at this;simpa using this
  have a7: ∀j,(d.setIfInBounds k true).getD j false=decide (j<k+1):=fun j=>by
   by_cases G:k=j
   ·subst G;have C:k<d.size:=by omega
    simp[C]
   ·rw[getD_set_ne false G,u];apply D1Z.2;omega
  have X:(d.setIfInBounds k true).size=ops.size:=by simpa using hsz
  let W:Nat→Prop:=fun j=>j=k∨(k<j∧(Y4 k l [])[j-(k+1)]? =some true)
  have a9:Closed .any ops k W:=by
   refine⟨.inl rfl,fun j oj I Y m=>?_⟩;rcases I with I|⟨b0,I⟩
   ·exact absurd I Y
   ·have q:l[j-(k+1)]? =some oj:=by rw[z];rw[show k+1+(j-(k+1))=j from by omega];exact m
    have J:=A3Z k l [] (j-(k+1)) oj q;simp only[D03,Nat.zero_add]at J;rw[I]at J;have hw:t7 oj k ((Y4 k l []).take (j-(k+1)))=true:=by simpa using J.symm
    unfold t7 at hw;obtain⟨e,A,g⟩:=Array.any_eq_true'.1 hw;simp only[D09,D2J,beq_iff_eq,D1I]at g;refine⟨e,A,g.1,?_⟩;rcases g.2 with h1|⟨h1,i⟩
    ·exact .inl h1
    ·refine .inr ⟨h1,?_⟩;rw[List.getD_eq_getElem?_getD]at i;cases M:((Y4 k l []).take (j-(k+1)))[e.on-(k+1)]? with
     |none=>rw[M]at i;simp at i
     |some b=>
      rw[M]at i;simp at i;subst i;rw[List.getElem?_take]at M;split at M
      ·exact M
      ·cases M
  have b1: ∀j,W j→d.getD j false=false:=fun j I=>by
   rw[u];rcases I with rfl|⟨b0,_⟩<;>simp;omega
  have L: ∀j oj,ops[j]? =some oj→¬W j→d.getD j true=false→A5Y P ops o oj=true∧A4P (bs k) (bs j):=fun j oj m r hu=>by
   have h1:=u j;rw[K8 hu]at h1;have G:k≤j:=by simpa using h1
   have Y:j≠k:=fun e=>r (.inl e);have q:l[j-(k+1)]? =some oj:=by rw[z];rw[show k+1+(j-(k+1))=j from by omega];exact m
   have a0:(Y4 k l [])[j-(k+1)]? ≠some true:=fun i=>r (.inr ⟨by omega,i⟩);have a4:=a5 (j-(k+1)) (D06.1 q).1 a0;rw[show k+1+(j-(k+1))=j from by omega]at a4;rcases okRestE_at l _ hr _ _ q with i|i
   ·exact absurd i a0
   ·exact⟨i,a4⟩
  refine B1r O a9 l.length d F H U hD b1 (fun j oj m r hu=>?_) p (A1W (fun F' H' U' h'=>ih (k+1) _ z a7 X y a6 F' H' U' h'.1 h'.2) (A7O hD h));obtain⟨h1,i⟩:=L j oj m r hu;exact⟨by simpa [A5Y]using h1,i⟩
def Ef.okH(e:Ef)(b:Nat)(H:Heap):Prop:=match e.new,e.at_ with
 |none,_=>True
 |some _,some c=>b=c
 |some _,none=>H b=none∨b∈e.del
theorem C2p{e:Ef}{b:Nat}{H:Heap}{U:Nat→Prop}(g:Dom H U)(h:e.okB b U):e.okH b H:=by
 unfold Ef.okB at h;unfold Ef.okH;cases hn:e.new with
 |none=>trivial
 |some o=>
  rw[hn]at h;cases d:e.at_ with
  |none=>
   rw[d]at h;refine h.imp (fun h=>?_) id;cases hb:H b with
   |none=>rfl
   |some x=>exact absurd (g.dom b (by rw[hb];simp)) h
  |some y=>rw[d]at h;exact h
theorem F7(H:Heap):H.minus []=H:=by funext k;simp[Heap.minus]
theorem B4P{b k:Nat}:(H.del b) k=none↔k=b∨H k=none:=by unfold Heap.del;by_cases h:k=b<;>simp[h]
theorem A08{t:TypeId}{a x:D}{H':Heap}{b:Nat}(h:Z0 P t a x H=some H')(g:rdB a= [b]): ∃o,H' b=some o∧o.rw=true∧H'=H.set b o∧B1n (H b)=true:=by
 unfold Z0 at h;split at h
 ·split at h
  ·rename_i e off;obtain rfl:e=b:=by simpa [rdB]using g
   split at h
   ·rename_i cs Z d;split at h
    ·cases h;exact⟨_,by simp[Heap.set],rfl,rfl,by rw[d];rfl⟩
    ·cases h
   ·cases h
  ·rename_i e sz i off;obtain rfl:e=b:=by simpa [rdB]using g
   split at h
   ·rename_i sz' es d;split at h
    ·cases h;exact⟨_,by simp[Heap.set],rfl,rfl,by rw[d];rfl⟩
    ·cases h
   ·cases h
  ·cases h
 ·cases h
theorem j0(H:Heap)(b:Nat)(o:Obj):(H.minus [b]).set b o=H.set b o:=by
 funext k;unfold Heap.set Heap.minus
 by_cases h:k=b<;>simp[h]
theorem B9A{op:Op}{e:Ef}(h:u0 P c bl ev H op=some e)(a5:A6A bb H e)(j:P1 P c bl ev H op):
  D3 P ev H (fun d H'=>∃b,e.okH b H∧d=e.val b∧(e.app b H).Le H') op:=by
 have one: ∀{K:D→Heap→Prop} {d:D} {rd:List Nat},e=val d rd→(∃b,e.okH b H∧d=e.val b∧(e.app b H).Le H):=by
  intro K d rd he;subst he;exact⟨0,trivial,rfl,by show (H.minus []).Le H;rw[F7];exact D2N H⟩
 by_cases hc:J0 P op= .pure
 ·rw[U6 hc]at h;obtain⟨d,y,rfl⟩:=D05.1 h;have fin: ∃d',L5 P ev op=some d'∧∃b,(val d []).okH b H∧d'=(val d []).val b∧((val d []).app b H).Le H:=⟨d,y,0,trivial,rfl,by show (H.minus []).Le H;rw[F7];exact D2N H⟩
  cases op
  case call cc=>
   obtain⟨callee,args,M⟩:=cc;cases callee with
   |value f=>simp[J0]at hc
   |invoke r m=>simp[J0]at hc
   |builtin b=>
    cases b<;>try(simp[J0]at hc;done)
    all_goals (simp only[D3,hc];exact fin)
  case convert s t x=>simp only[D3,hc];exact fin
  case load t x=>simp[J0]at hc
  case store t a x=>simp[J0]at hc
  case alloc t=>simp[J0]at hc
  case box t x=>simp[J0]at hc
  case buildSlice t n p=>simp[J0]at hc
  case makeSlice t a b=>simp[J0]at hc
  case range t x=>simp[J0]at hc
  case next x i=>simp[J0]at hc
  case makeMap t r=>simp[J0]at hc
  case lookup t m k ok=>simp[J0]at hc
  case mapUpdate t m k v=>simp[J0]at hc
  all_goals first
   |(simp only[D3,hc];exact fin)
   |(simp[J0]at hc;done)
 ·rw[I5 hc]at h;cases op
  case load t x=>
   simp only[I4,D05]at h;obtain⟨d,y,rfl⟩:=h;exact⟨d,y,0,trivial,rfl,by show (H.minus []).Le H;rw[F7];exact D2N H⟩
  case lookup t m k ok=>
   simp only[I4,D05]at h;obtain⟨d,y,rfl⟩:=h;exact⟨d,y,0,trivial,rfl,by show (H.minus []).Le H;rw[F7];exact D2N H⟩
  case alloc t=>
   simp only[I4,D05]at h;obtain⟨z,O,rfl⟩:=h;exact⟨z,O,fun b hb=>⟨b,.inl hb,rfl,by show ((H.minus []).set b _).Le _;rw[F7];exact D2N _⟩⟩
  case box t x=>
   simp only[I4]at h;split at h
   ·rename_i h1;cases h;exact⟨h1,fun b hb=>⟨b,.inl hb,rfl,by show ((H.minus []).set b _).Le _;rw[F7];exact D2N _⟩⟩
   ·cases h
  case makeSlice t l c=>
   simp only[I4]at h;obtain⟨e',sz,A,z,k,n,k',m,h1,G,T,h4,h5,h6,h7,h8,h9,U,rfl⟩:=A5X h;exact⟨e',sz,A,z,k,n,k',m,h1,G,T,h4,h5,h6,h7,h8,h9,U,fun b hb=>⟨b,.inl hb,rfl,by show ((H.minus []).set b _).Le _;rw[F7];exact D2N _⟩⟩
  case buildSlice t n parts=>
   simp only[I4,bsE]at h;obtain⟨⟨e',sz,A⟩,V,h⟩:=D08.1 h;split at h
   ·rename_i h1;obtain⟨z,O,h⟩:=D08.1 h;split at h
    ·rename_i G;obtain⟨es,W,rfl⟩:=D05.1 h;exact⟨e',sz,A,z,es,V,h1.1,h1.2,O,G,W,fun b hb=>⟨b,.inl hb,rfl,by show ((H.minus []).set b _).Le _;rw[F7];exact D2N _⟩⟩
    ·cases h
   ·cases h
  case store t a x=>
   simp only[I4,t8]at h;obtain⟨H1,hs,h⟩:=D08.1 h;refine⟨H1,hs,?_⟩;cases X:ev a with
   |box b off=>
    rw[X]at h hs;simp only at h;obtain⟨o,ho,rfl⟩:=D05.1 h;obtain⟨o',C,_,I,_⟩:=A08 hs (b:=b) rfl;rw[ho]at C;cases C;exact⟨b,rfl,rfl,by show ((H.minus [b]).set b _).Le _;rw[j0,I];exact D2N _⟩
   |el b sz i off=>
    rw[X]at h hs;simp only at h;obtain⟨o,ho,rfl⟩:=D05.1 h;obtain⟨o',C,_,I,_⟩:=A08 hs (b:=b) rfl;rw[ho]at C;cases C;exact⟨b,rfl,rfl,by show ((H.minus [b]).set b _).Le _;rw[j0,I];exact D2N _⟩
   |_=>rw[X]at h;simp at h
  case call cc=>
   obtain⟨callee,args,M⟩:=cc;cases callee with
   |value f=>
    simp only[I4]at h;simp only[P1]at j;simp only[D3];split at h
    ·rename_i g first cap hf
     cases h;rw[hf]at j⊢;simp only at j⊢;refine(j H (fun k cs hk=>hk) (fun b hb=>rfl)).mono fun d H' y=>?_;unfold CR.post at y;unfold Ef.okH Ef.app;cases hn:c.new with
     |none=>rw[hn]at y;exact⟨0,by simp only[hn],by simp only[CR.f,hn];exact y.1,by simp only[hn];exact y.2⟩
     |some o=>
      rw[hn]at y;obtain⟨b,h1,G,T⟩:=y;exact⟨b,by simp only[hn];exact h1,by simp only[CR.f,hn];exact G,by simp only[hn];exact T⟩
    ·cases h
   |invoke r m=>simp[I4]at h
   |builtin b=>
    cases b
    case append=>
     unfold I4 at h;simp only at h;simp only[D3];split at h
     ·rename_i t t' s x h1 G;simp only[h1,G];unfold B1o at h;obtain⟨⟨e',sz,A⟩,V,h⟩:=D08.1 h;split at h
      ·rename_i q;simp only at q h;obtain⟨xs,Y,h⟩:=D08.1 h;refine⟨e',sz,A,V,q.1,q.2.1,q.2.2,xs,Y,?_⟩;split at h
       ·rename_i J;split at h
        ·rename_i hx;cases h;rw[J];refine⟨hx.1,hx.2.1,fun he=>by rw[he]at hx;simp at hx,fun _ b hb=>⟨b,.inl hb,rfl,?_⟩⟩;intro k o hk;simp only[Ef.app,Heap.set]at hk⊢;split at hk
         ·rename_i u;rw[if_pos u];exact hk
         ·rename_i u;rw[if_neg u];exact A55 _ _ k o hk
        ·cases h
       ·rename_i b sz' lo n J;split at h
        ·rename_i a4 es hb;split at h
         ·rename_i hx;obtain⟨x1,x2,x3,x4,x5,x6⟩:=hx;subst x1;subst x2;subst x3;cases h;rw[J];refine⟨rfl,.inl ⟨rfl,es,hb,x4,x5,x6,fun b' a0=>⟨b',?_,rfl,?_⟩⟩⟩
          ·show H b'=none∨b'∈b::_;rcases B4P.1 a0 with h|h
           ·exact .inr (by rw[h];exact D07 ..)
           ·exact .inl h
          ·intro k o hk;simp only[Ef.app,Heap.set]at hk⊢;split at hk
           ·rename_i u;rw[if_pos u];exact hk
           ·rename_i u;rw[if_neg u];unfold Heap.minus at hk;split at hk
            ·cases hk
            ·rename_i L;simp only[D1O,not_or]at L;unfold Heap.del;rw[if_neg L.1];exact hk
         ·cases h
        ·cases h
       ·cases h
      ·cases h
     ·cases h
    all_goals cases h
  case makeMap t r=>
   cases r with
   |none=>
    simp only[I4,D1Y]at h;subst h;exact fun b hb=>⟨b,.inl hb,rfl,by show ((H.minus []).set b _).Le _;rw[F7];exact D2N _⟩
   |some r=>simp[I4]at h
  all_goals cases h
structure StF(N:Nat)(w0:World)(H0:Heap)(F:FEnv)(H:Heap)(U:Nat→Prop)(a:Act)(w:World):Prop where
 size:a.tmps.size=N
 defers:a.defers= []
 env: ∀i,R w H (F i) (a.eval (.tmp i))
 sat:Sat H w
 ext:Ext H0 w0 w
 frm:From w0 H0 H
 dom:Dom H U
 lt: ∀b,U b→b<w.heap.size
theorem StF.evR{N:Nat}{w0:World}{H0:Heap}{F:FEnv}{U:Nat→Prop}{a:Act}{w:World}(h:StF N w0 H0 F H U a w)(x:Operand):R w H (F.ev x) (a.eval x):=by
 cases x with
 |tmp t=>exact h.env t
 |const v=>exact A2W w H v
 |global g=>exact .glob g
 |func f=>exact .fn _ _ _ _ _ rfl rfl (by simp) (by simp)
theorem B1s{e:Ef}{b:Nat}{o:Obj}{H:Heap}(h:e.new=some o):e.app b H b=some o:=by unfold Ef.app;rw[h];simp[Heap.set]
theorem A96{N:Nat}{w0:World}{H0:Heap}{o:Oper}{K:Kf}{F:FEnv}{U:Nat→Prop}{a:Act}{w:World}(W: ∀t,o.dst=some t→t<N)(h:A0a P c bb o K F H U)(hst:StF N w0 H0 F H U a w):
  opSem P none o a w fun v w'=>∃L H' M,StF N w0 H0 L H' M (a.put o.dst v) w'∧K L H' M:=by
 obtain⟨e,he,r,j,hk⟩:=h;refine(O0 (o:=o) hst.sat hst.evR (B9A he r j)).mono fun v w' hp=>?_;obtain⟨d,H',X,O,G,T,b,hb,rfl,g⟩:=hp;have u: ∀ob,e.new=some ob→H b=none→w.heap.size≤b:=fun ob x m=>by
  rcases Nat.lt_or_ge b w.heap.size with I|J
  ·have h1:=T b I (I1 m);have Y:=g b ob (B1s x);rw[J5 Y,r.new ob x]at h1;cases h1
  ·exact J
 have z:e.okB b U:=by
  unfold Ef.okH at hb;unfold Ef.okB;cases hn:e.new with
  |none=>trivial
  |some ob=>
   rw[hn]at hb;cases V:e.at_ with
   |none=>
    rw[V]at hb;exact hb.imp (fun m hU=>by have:=hst.lt b hU;have:=u ob hn m;omega) id
   |some y=>rw[V]at hb;exact hb
 refine⟨F.put o.dst (e.val b),e.app b H,e.used b U,?_,hk b z⟩;have p:From w H (e.app b H):=T.less g;refine⟨?_,?_,fun i=>?_,O.less g,hst.ext.trans hst.frm G,hst.frm.trans hst.ext.size p,hst.dom.app z,fun k hk=>?_⟩
 ·cases o.dst<;>simp[Act.put,hst.size]
 ·cases o.dst<;>exact hst.defers
 ·cases A:o.dst with
  |none=>exact(hst.env i).mono G p
  |some t=>
   have ht:=W t A;simp only[FEnv.put];by_cases q:t=i
   ·subst q;rw[if_pos rfl];have:(a.put (some t) v).eval (.tmp t)=v:=by
     have h':t<a.tmps.size:=by rw[hst.size];exact ht
     simp[Act.eval,Act.put,h']
    rw[this];exact X.less g
   ·rw[if_neg q];have:(a.put (some t) v).eval (.tmp i)=a.eval (.tmp i):=by
     simp[Act.eval,Act.put,D1a q]
    rw[this];exact(hst.env i).mono G p
 ·rcases used_inv hk with hk|⟨hn,rfl⟩
  ·exact D1s (hst.lt k hk) G.size
  ·cases C:e.new with
   |none=>exact absurd C hn
   |some ob=>exact O.lt (g k ob (B1s C))
theorem A4y{N:Nat}{w0:World}{H0:Heap}{F:FEnv}{H:Heap}{U:Nat→Prop}{a:Act}{w:World}{o:Oper}{r:Bool}(hst:StF N w0 H0 F H U a w)(h:A15 (P2 ops) F o.guard=some r):Region.wanted o (yielded ops a.tmps)=r:=by
 cases d:o.guard with
 |none=>rw[d]at h;cases h;simp[Region.wanted,d]
 |some p=>
  obtain⟨j,m⟩:=p;rw[d]at h;unfold A15 at h;simp only[]at h;rw[B2y]at h;cases hs:(ops[j]?).bind (·.dst)with
  |none=>
   rw[hs]at h;cases h;have e:yielded ops a.tmps j=none:=by unfold yielded;rw[hs];rfl
   simp[Region.wanted,d,e]
  |some s=>
   rw[hs]at h;simp only[]at h;have hv:=hst.env s;split at h
   ·rename_i i;cases h;rw[i]at hv;obtain⟨vs,hv,_⟩:=hv.tuple_inv;have e:yielded ops a.tmps j=none:=by
     unfold yielded;rw[hs];simp only[D1Q];simp only[Act.eval]at hv;cases g:a.tmps[s]? with
     |none=>rfl
     |some u=>
      simp[g]at hv;subst hv;rfl
    simp[Region.wanted,d,e]
   ·rename_i b i;cases h;rw[i]at hv;have hv:=hv.bool_inv;have e:yielded ops a.tmps j=some b:=by
     unfold yielded;rw[hs];simp only[D1Q];simp only[Act.eval]at hv;cases g:a.tmps[s]? with
     |none=>
      simp[g]at hv;cases hv
     |some u=>
      simp[g]at hv;subst hv;rfl
    simp[Region.wanted,d,e]
   ·cases h
theorem StF.skip{N:Nat}{w0:World}{H0:Heap}{F:FEnv}{H:Heap}{U:Nat→Prop}{a:Act}{w:World}(hst:StF N w0 H0 F H U a w){dst:Option Nat}(e: ∀t,dst=some t→t<N):StF N w0 H0 (F.put dst (.tuple [])) H U (a.put dst undef) w:=by
 refine⟨?_,?_,fun i=>?_,hst.sat,hst.ext,hst.frm,hst.dom,hst.lt⟩
 ·cases dst<;>simp[Act.put,hst.size]
 ·cases dst<;>exact hst.defers
 ·cases dst with
  |none=>exact hst.env i
  |some t=>
   have g:=e t rfl;simp only[FEnv.put];by_cases d:t=i
   ·subst d;rw[if_pos rfl];have:(a.put (some t) undef).eval (.tmp t)=undef:=by
     have h:t<a.tmps.size:=by rw[hst.size];exact g
     simp[Act.eval,Act.put,h]
    rw[this];exact .tuple [] #[] rfl (by simp)
   ·rw[if_neg d];have:(a.put (some t) undef).eval (.tmp i)=a.eval (.tmp i):=by
     simp[Act.eval,Act.put,D1a d]
    rw[this];exact hst.env i
theorem A1X{N:Nat}{w0:World}{H0:Heap}{K:Kf}{Q:Exit→Act→World→Prop}(g: ∀o∈ops.toList,∀t,o.dst=some t→t<N)
  (j: ∀F H U a w,StF N w0 H0 F H U a w→K F H U→Q .normal a w): ∀(fuel:Nat) (d:Array Bool) (F:FEnv) (H:Heap) (U:Nat→Prop) (a:Act) (w:World),
  B4M P cs bs md ops K fuel d F H U→StF N w0 H0 F H U a w→Go.wpAny P md ops Q fuel d a w
 |0,_,F,H,U,a,w,h,hst=>⟨h.1,j _ _ _ _ _ hst h.2⟩
 |fuel+1,d,F,H,U,a,w,h,hst=>⟨fun p=>j _ _ _ _ _ hst (h.1 p),fun i q=>by
   have h1:=h.2 i q;unfold sE at h1;unfold Go.wpOp;split
   ·rename_i hn;simp only[hn]at h1;exact A1X g j fuel _ _ _ _ _ _ h1 hst
   ·rename_i o ho;simp only[ho]at h1;have e:o∈ops.toList:=by rw[D1b];exact Array.mem_of_getElem? ho
    rcases h1 with⟨hr,h1⟩|⟨hr,h1⟩
    ·rw[if_pos (A4y hst hr)];exact .inl (opSem.wp ((A96 (g o e) h1 hst).mono fun v w' hv=>by
      obtain⟨r,H',u,m,hk⟩:=hv;exact A1X g j fuel _ _ _ _ _ _ hk m))
    ·rw[if_neg (by rw[A4y hst hr];exact Bool.false_ne_true)];exact A1X g j fuel _ _ _ _ _ _ h1 (hst.skip (g o e))⟩
def wpP(P:Program)(gs:List (Option Nat))(cs:Nat→CR)(bs:Nat→Bl)(K:Env→Heap→Prop):Nat→List Oper→Env→Heap→Prop
 |_,[],E,H=>K E H
 |i,o::l,E,H=>match o.guard with
  |none=>∃e,u0 P (cs i) (bs i).l E.ev H o.op=some e∧A6A (bs i) H e∧P1 P (cs i) (bs i).l E.ev H o.op∧∀b,e.okH b H→wpP P gs cs bs K (i+1) l (E.put o.dst (e.val b)) (e.app b H)
  |some (j,want)=>A14 E (I2 gs j) want
    (fun E=>∃e,u0 P (cs i) (bs i).l E.ev H o.op=some e∧A6A (bs i) H e∧P1 P (cs i) (bs i).l E.ev H o.op∧∀b,e.okH b H→wpP P gs cs bs K (i+1) l (E.put o.dst (e.val b)) (e.app b H))
    (fun E=>wpP P gs cs bs K (i+1) l (E.put o.dst (.tuple [])) H)
theorem A4Q{p:List (Option Nat)}{K:Env→Heap→Prop}: ∀(l:List Oper) (i:Nat) (E:Env) (F:FEnv) (H:Heap) (U:Nat→Prop),(∀t,E.get t=F t)→Dom H U→wpP P p cs bs K i l E H→A7P P p cs bs (fun F H _=>∃E,(∀t,E.get t=F t)∧K E H) i l F H U
 | [],i,E,F,H,U,g,z,h=>⟨E,g,h⟩
 |o::l,i,E,F,H,U,g,z,h=>by
  have put: ∀(E:Env) (d:D),(∀t,E.get t=F t)→∀t,(E.put o.dst d).get t=(F.put o.dst d) t:=fun E d g t=>by
   cases o.dst with
   |none=>exact g t
   |some u=>
    simp only[Env.put,Env.get,FEnv.put];split
    ·rfl
    ·exact g t
  have y: ∀(E:Env),(∀t,E.get t=F t)→F.ev=E.ev:=fun E g=>by
   funext x
   cases x with
   |tmp t=>exact(g t).symm
   |_=>rfl
  have run: ∀(E:Env),(∀t,E.get t=F t)→(∃e,u0 P (cs i) (bs i).l E.ev H o.op=some e∧A6A (bs i) H e∧P1 P (cs i) (bs i).l E.ev H o.op∧∀b,e.okH b H→wpP P p cs bs K (i+1) l (E.put o.dst (e.val b)) (e.app b H))→
    A0a P (cs i) (bs i) o (A7P P p cs bs (fun F H _=>∃E,(∀t,E.get t=F t)∧K E H) (i+1) l) F H U:=fun E g h=>by
   obtain⟨e,he,C,q,hk⟩:=h;exact⟨e,by rw[y E g];exact he,C,by rw[y E g];exact q,fun b hb=>A4Q l (i+1) (E.put o.dst (e.val b)) _ _ _ (put E _ g) (z.app hb) (hk b (C2p z hb))⟩
  have skip: ∀(E:Env),(∀t,E.get t=F t)→wpP P p cs bs K (i+1) l (E.put o.dst (.tuple [])) H→A7P P p cs bs (fun F H _=>∃E,(∀t,E.get t=F t)∧K E H) (i+1) l (F.put o.dst (.tuple [])) H U:=fun E g h=>
   A4Q l (i+1) (E.put o.dst (.tuple [])) _ _ _ (put E _ g) z h
  have know: ∀(E:Env) (s:Nat) (d:D),(∀t,E.get t=F t)→E.get s=d→∀t,Env.get ((s,d)::E) t=F t:=fun E s d g hs t=>by
   simp only[Env.get];split
   ·rename_i e;subst e;rw[←hs];exact g s
   ·exact g t
  unfold wpP at h;unfold A7P;cases r:o.guard with
  |none=>
   rw[r]at h;exact .inl ⟨by rw[r];rfl,run E g h⟩
  |some J=>
   obtain⟨j,m⟩:=J;rw[r]at h;simp only[]at h;unfold A14 at h;cases hs:I2 p j with
   |none=>
    rw[hs]at h;exact .inr ⟨by rw[r];simp only[A15,hs],skip E g h⟩
   |some s=>
    rw[hs]at h;rcases h with⟨L,h⟩|⟨b,hb,h1,M⟩
    ·have A:F s= .tuple []:=by rw[←g];exact L
     exact .inr ⟨by rw[r];simp only[A15,hs,A],skip E g h⟩
    ·have A:F s= .bool b:=by rw[←g];exact hb
     by_cases G:b=m
     ·subst G;exact .inl ⟨by rw[r];simp only[A15,hs,A,beq_self_eq_true],run _ (know E s _ g hb) (h1 rfl)⟩
     ·have I:b= !m:=by cases b<;>cases m<;>simp_all
      subst I;exact .inr ⟨by rw[r];simp only[A15,hs,A];cases m<;>rfl,skip _ (know E s _ g hb) (M rfl)⟩
theorem C2q(n:Nat)(l:List Nat): ∃b,¬(b<n)∧b∉l:=by
 refine⟨n+l.sum+1,by omega,fun h=>?_⟩;have: ∀(l:List Nat) (x:Nat),x∈l→x≤l.sum:=by
  intro l
  induction l with
  |nil=>intro x hx;cases hx
  |cons y l d=>
   intro x hx;rcases D1O.1 hx with rfl|hx
   ·simp
   ·have:=d x hx;simp;omega
 have:=this l _ h;omega
theorem A4R{w:World}(hs:Sat H w):Dom H (fun b=>b<w.heap.size):=⟨fun b hb=>by
 cases h:H b with
 |none=>exact absurd h hb
 |some o=>exact hs.lt h,C2q _⟩
theorem B5n{N:Nat}{w0:World}{H0:Heap}{id:Nat}{K:Env→Heap→Prop}{Q:Exit→Act→World→Prop}{a:Act}{w:World}{E:Env}(hm:P.follows .mixedOrders=true)(e:B2z P ops=true)
  (p: ∀o∈ops.toList,∀t,o.dst=some t→t<N)
  (q: ∀E H a w,a.tmps.size=N→a.defers= []→(∀i,R w H (E.get i) (a.eval (.tmp i)))→Sat H w→Ext H0 w0 w→From w0 H0 H→K E H→Q .normal a w)
  (h1:a.tmps.size=N) (r:a.defers= []) (u: ∀i,R w H (E.get i) (a.eval (.tmp i))) (x:Sat H w) (h5:Ext H0 w0 w) (m:From w0 H0 H)
  (g:B4O bs 0 ops.toList) (h:wpP P (P2 ops) cs bs K 0 ops.toList E H):(Code.region id ops true).wp P Q a w:=by
 have he:Ext H w {w with drawn:=w.drawn+1}:=Ext.drewN H w 1;have d:=x.same (w':={w with drawn:=w.drawn+1}) rfl he;refine wp_region_any hm (A1X (P:=P) (cs:=cs) (bs:=bs) (md:=.any) (ops:=ops) (K:=fun F H _=>∃E,(∀t,E.get t=F t)∧K E H) p (fun F H U a w hst hk=>?_) ops.size _ _ _ _ a {w with drawn:=w.drawn+1} ?_
  (⟨h1,r,fun i=>(u i).mono he (D2T _ _),d,h5.trans m he,m,A4R d,fun b hb=>hb⟩:StF N w0 H0 E.get H (fun b=>b<({w with drawn:=w.drawn+1}:World).heap.size) a {w with drawn:=w.drawn+1}))
 ·obtain⟨E,y,hk⟩:=hk;exact q E H a w hst.size hst.defers (fun i=>by rw[y];exact hst.env i) hst.sat hst.ext hst.frm hk
 ·have:=A95 (P:=P) (cs:=cs) (bs:=bs) (ops:=ops) ops.toList 0 (Array.replicate ops.size false) (by simp) (by intro j;simp[Array.getElem?_replicate];split<;>rfl) (by simp) e g E.get H _ (A4R d)
   (A4Q ops.toList 0 E E.get H _ (fun _=>rfl) (A4R d) h)
  simpa using this
end
section
variable {P:Program} {H H':Heap} {ev ev':Operand→D} {bl:List Nat}
theorem A09{op:Op}{K:D→Heap→Prop}(hc:J0 P op= .pure):D3 P ev H K op= ∃d,L5 P ev op=some d∧K d H:=by
 cases op
 case convert s t x=>simp only[D3,hc]
 case call cc=>
  obtain⟨callee,args,e⟩:=cc;cases callee with
  |value f=>simp[J0]at hc
  |invoke r m=>simp[J0]at hc
  |builtin b=>cases b<;>first|(simp only[D3,hc];done)|(simp[J0]at hc;done)
 all_goals first
  |rfl
  |(simp[J0]at hc;done)
  |(simp only[D3,hc];done)
theorem B1t{op:Op}{K:D→Heap→Prop}(h: ∀x∈op.operands.toList,ev x=ev' x):D3 P ev H K op=D3 P ev' H K op:=by
 by_cases hc:J0 P op= .pure
 ·rw[A09 hc,A09 hc,A13 hc h]
 ·cases op
  case load t x=>simp only[D3,h x (by simp[Op.operands])]
  case store t a x=>simp only[D3,h a (by simp[Op.operands]),h x (by simp[Op.operands])]
  case box t x=>simp only[D3,h x (by simp[Op.operands])]
  case lookup t m k ok=>simp only[D3,h m (by simp[Op.operands]),h k (by simp[Op.operands])]
  case mapUpdate t m k x=>simp only[D3,h m (by simp[Op.operands]),h k (by simp[Op.operands]),h x (by simp[Op.operands])]
  case buildSlice t n parts=>simp only[D3,A6B (ev:=ev) (ev':=ev') (l:=parts.toList) (fun x hx=>h x (by simpa [Op.operands]using hx))]
  case makeSlice t l c=>simp only[D3,h l (by simp[Op.operands]),h c (by simp[Op.operands])]
  case range t x=>simp only[D3,h x (by simp[Op.operands])]
  case next x b=>simp only[D3,h x (by simp[Op.operands])]
  case entry x=>simp only[D3,h x (by simp[Op.operands])]
  case convert s t x=>
   have hx:=h x (by simp[Op.operands]);have e1:A2w P ev H K s t x=A2w P ev' H K s t x:=by unfold A2w;rw[hx]
   simp only[D3];exact e1
  case call cc=>
   obtain⟨callee,args,g⟩:=cc;cases callee with
   |value f=>
    have i:=h f (by simp[Op.operands,Call.operands]);have j:=A24 (ev:=ev) (ev':=ev') (l:=args.toList) (fun x hx=>h x (by simp[Op.operands,Call.operands];exact .inr (by simpa using hx)));simp only[D3,i,j]
   |invoke r m=>simp only[D3]
   |builtin b=>
    cases b
    case append=>
     unfold D3;simp only;split
     ·rename_i t o s x h1 e;have e1:=h s (by simp[Op.operands,Call.operands,←D1b,e]);have e2:=h x (by simp[Op.operands,Call.operands,←D1b,e]);unfold A1R;rw[e1,e2]
     ·rfl
    case len=>
     unfold D3;simp only;split
     ·rename_i x e;rw[h x (by simp[Op.operands,Call.operands,←D1b,e])]
     ·rfl
    all_goals
     unfold D3;simp only
     try(split<;>first|rfl|(rename_i d;exact absurd d hc))
  case makeMap t r=>cases r<;>first|rfl|(unfold D3;simp only;try(split<;>first|rfl|(rename_i d;exact absurd d hc)))
  all_goals first
   |rfl
   |(unfold D3;simp only;try(split<;>first|rfl|(rename_i d;exact absurd d hc)))
theorem A4S{op:Op}{K M:D→Heap→Prop}(j: ∀d H,K d H→M d H)(h:D3 P ev H K op):D3 P ev H M op:=by
 by_cases hc:J0 P op= .pure
 ·rw[A09 hc]at h⊢;obtain⟨d,h1,o⟩:=h;exact⟨d,h1,j _ _ o⟩
 ·cases op
  case load t x=>obtain⟨d,h1,o⟩:=h;exact⟨d,h1,j _ _ o⟩
  case store t a x=>obtain⟨d,h1,o⟩:=h;exact⟨d,h1,j _ _ o⟩
  case box t x=>exact⟨h.1,fun b hb=>j _ _ (h.2 b hb)⟩
  case alloc t=>obtain⟨z,h1,o⟩:=h;exact⟨z,h1,fun b hb=>j _ _ (o b hb)⟩
  case lookup t m k ok=>obtain⟨d,h1,o⟩:=h;exact⟨d,h1,j _ _ o⟩
  case mapUpdate t m k x=>obtain⟨d,h1,o⟩:=h;exact⟨d,h1,j _ _ o⟩
  case buildSlice t n parts=>obtain⟨e,sz,u,z,es,h1,o,y,A,h5,q,O⟩:=h;exact⟨e,sz,u,z,es,h1,o,y,A,h5,q,fun b hb=>j _ _ (O b hb)⟩
  case makeSlice t l c=>obtain⟨e,sz,u,z,k,n,k',m,h1,o,y,A,h5,q,O,h8,h9,T,U⟩:=h;exact⟨e,sz,u,z,k,n,k',m,h1,o,y,A,h5,q,O,h8,h9,T,fun b hb=>j _ _ (U b hb)⟩
  case range t x=>
   unfold D3 at h⊢;simp only at h⊢;split at h
   ·exact⟨h.1,fun b hb=>j _ _ (h.2 b hb)⟩
   ·exact⟨h.1,fun b hb=>j _ _ (h.2 b hb)⟩
   ·exact h.elim
  case next x b=>
   unfold D3 at h⊢;simp only at h⊢;split at h
   ·split at h
    ·rename_i h1 o _ _ _ _;exact⟨fun g=>j _ _ (h.1 g),fun g=>j _ _ (h.2 g)⟩
    ·exact h.elim
   ·split at h
    ·exact⟨fun i p J C=>j _ _ (h.1 i p J C),fun g=>j _ _ (h.2 g)⟩
    ·exact h.elim
   ·exact h.elim
  case entry x=>
   unfold D3 at h⊢;simp only at h⊢;split at h
   ·split at h
    ·obtain⟨i,p,J,C,L⟩:=h;exact⟨i,p,J,C,j _ _ L⟩
    ·exact h.elim
   ·exact h.elim
  case convert s t x=>
   have e1:A2w P ev H K s t x→A2w P ev H M s t x:=fun h=>by
    unfold A2w at h⊢;split at h
    ·exact⟨h.1,h.2.1,fun b hb=>j _ _ (h.2.2 b hb)⟩
    ·rcases h with⟨h1,o,z,y,A⟩|⟨h1,o,b,z,y,A,h5,q⟩
     ·exact .inl ⟨h1,o,z,y,j _ _ A⟩
     ·exact .inr ⟨h1,o,b,z,y,A,h5,j _ _ q⟩
   simp only[D3]at h⊢;exact e1 h
  case call cc=>
   obtain⟨callee,args,a0⟩:=cc;cases callee with
   |value f=>
    unfold D3 at h⊢;simp only at h⊢;split at h
    ·exact ACalls.mono h j
    ·exact h.elim
   |invoke r m=>unfold D3 at h;simp only at h;try(split at h<;>first|exact h.elim|(rename_i G;exact absurd G hc))
   |builtin b=>
    cases b
    case append=>
     unfold D3 at h⊢;simp only at h⊢;split at h
     ·unfold A1R at h⊢;obtain⟨e,sz,u,h1,o,y,A,xs,h5,q⟩:=h;refine⟨e,sz,u,h1,o,y,A,xs,h5,?_⟩;split at q
      ·exact⟨q.1,q.2.1,fun g=>j _ _ (q.2.2.1 g),fun g b hb=>j _ _ (q.2.2.2 g b hb)⟩
      ·refine⟨q.1,?_⟩;rcases q.2 with⟨J,es,C,L,V,W,X⟩|⟨es,C,L,V,W,X⟩
       ·exact .inl ⟨J,es,C,L,V,W,fun Y I=>j _ _ (X Y I)⟩
       ·exact .inr ⟨es,C,L,V,W,fun Y pre I=>j _ _ (X Y pre I)⟩
      ·exact q.elim
     ·exact h.elim
    case len=>
     have e1:(match args.toList with| [x]=>∃kvs,Y3 H (ev x)=some kvs∧K (.int .i64 kvs.length) H|_=>False)→(match args.toList with| [x]=>∃kvs,Y3 H (ev x)=some kvs∧M (.int .i64 kvs.length) H|_=>False):=fun h=>by
      split at h
      ·obtain⟨kvs,h1,o⟩:=h;exact⟨kvs,h1,j _ _ o⟩
      ·exact h.elim
     unfold D3 at h⊢;simp only at h⊢;exact e1 h
    all_goals
     unfold D3 at h;simp only at h
     try(split at h<;>first|exact h.elim|(rename_i G;exact absurd G hc))
  case makeMap t r=>
   cases r with
   |none=>exact fun b hb=>j _ _ (h b hb)
   |some x=>unfold D3 at h;simp only at h;try(split at h<;>first|exact h.elim|(rename_i G;exact absurd G hc))
  all_goals (unfold D3 at h;simp only at h;try(split at h<;>first|exact h.elim|(rename_i G;exact absurd G hc)))
def B5o(bl:List Nat)(ev:Operand→D):Op→Prop
 | .load _ x=>∀b∈rdB (ev x),b∈bl
 |_=>False
abbrev Kg:=FEnv→Heap→Prop
def A8Q(P:Program)(bl:List Nat)(o:Oper)(K:Kg)(F:FEnv)(H:Heap):Prop:=
 o.guard=none∧(J0 P o.op= .load→B5o bl F.ev o.op)∧D3 P F.ev H (fun d H'=>(∀k∈bl,H' k=H k)∧K (F.put o.dst d) H') o.op
theorem B4Q{o:Oper}{K e:Kg}(h: ∀F H,K F H→e F H){F:FEnv}{H:Heap}(hk:A8Q P bl o K F H):A8Q P bl o e F H:=
 ⟨hk.1,hk.2.1,A4S (fun d H' g=>⟨g.1,h _ _ g.2⟩) hk.2.2⟩
def Yld(P:Program)(bl:List Nat)(o:Oper)(d:D)(F:FEnv)(H:Heap):Prop:=
 (J0 P o.op= .pure∧L5 P F.ev o.op=some d)∨∃t x,o.op= .load t x∧(∀b∈rdB (F.ev x),b∈bl)∧A0B P t (F.ev x) H=some d
theorem C2r{o:Oper}{K:Kg}{F:FEnv}{H:Heap}(hc:J0 P o.op≠ .eff)(h:A8Q P bl o K F H):o.guard=none∧∃d,Yld P bl o d F H∧K (F.put o.dst d) H:=by
 obtain⟨h1,j,g⟩:=h;refine⟨h1,?_⟩;cases e:J0 P o.op with
 |pure=>
  rw[A09 e]at g;obtain⟨d,i,_,h5⟩:=g;exact⟨d,.inl ⟨e,i⟩,h5⟩
 |load=>
  have hr:=j e;obtain⟨dst,op,ty,pos,after,guard⟩:=o;cases op<;>try exact hr.elim
  rename_i t x;obtain⟨d,i,_,h5⟩:=g;exact⟨d,.inr ⟨t,x,rfl,hr,i⟩,h5⟩
 |eff=>exact absurd e hc
theorem A6C{o:Oper}{K:Kg}{F:FEnv}{H:Heap}{d:D}(e:o.guard=none)(i:Yld P bl o d F H)(h:K (F.put o.dst d) H):A8Q P bl o K F H:=by
 rcases i with⟨hc,hp⟩|⟨t,x,ho,hr,hl⟩
 ·refine⟨e,(fun g=>by rw[hc]at g;cases g),?_⟩;rw[A09 hc];exact⟨d,hp,fun _ _=>rfl,h⟩
 ·refine⟨e,fun _=>by rw[ho];exact hr,?_⟩;rw[ho];exact⟨d,hl,fun _ _=>rfl,h⟩
theorem Yld.keep{ops:Array Oper}{o:Oper}{d:D}{F:FEnv}{H H':Heap}{dst:Option Tmp}{e:D}(h:Yld P bl o d F H)(i: ∀t,dst=some t→t∉o.looksAt ops)(j: ∀k∈bl,H' k=H k):Yld P bl o d (F.put dst e) H':=by
 have g:=Q9 (F:=F) (ops:=ops) (o:=o) (dst:=dst) (d:=e) i;rcases h with⟨hc,hp⟩|⟨t,x,ho,hr,hl⟩
 ·exact .inl ⟨hc,by rw[A13 hc g];exact hp⟩
 ·have hx:=g x (by rw[ho];simp[Op.operands]);refine .inr ⟨t,x,ho,by rw[hx];exact hr,?_⟩;rw[hx];unfold A0B at hl⊢;obtain⟨s,hs,hl⟩:=D08.1 hl;obtain⟨cs,hc,hl⟩:=D08.1 hl;rw[hs,D1Q,A7N hc (fun b hb=>j b (hr b hb)),D1Q];exact hl
section
variable {ops:Array Oper} {md:Region.Mode}
def sG(P:Program)(bl:List Nat)(ops:Array Oper)(i:Nat)(K:Kg):Kg:=match ops[i]? with
 |none=>K
 |some o=>A8Q P bl o K
def A97(P:Program)(bl:List Nat)(md:Region.Mode)(ops:Array Oper)(K:Kg):Nat→Array Bool→Kg
 |0,listed=>fun F H=>Region.ready md ops listed= []∧K F H
 |fuel+1,listed=>fun F H=>(Region.ready md ops listed= []→K F H)∧∀i∈Region.ready md ops listed,sG P bl ops i (A97 P bl md ops K fuel (listed.setIfInBounds i true)) F H
theorem B1u{K:Kg}{i:Nat}{q:Oper}{d:D}{W:Nat→Prop}(X:ops[i]? =some q)(y:q.guard=none)(hW:Closed md ops i W):
  ∀(fuel:Nat) (g:Array Bool) (F:FEnv) (H:Heap),(∀j,W j→g.getD j false=false)→
   (∀j oj,ops[j]? =some oj→¬W j→g.getD j true=false→q.apart ops oj=true)→
   i∈Region.ready md ops g→Yld P bl q d F H→A97 P bl md ops K fuel (g.setIfInBounds i true) (F.put q.dst d) H→A97 P bl md ops K (fuel+1) g F H:=by
 intro fuel
 induction fuel with
 |zero=>
  intro g F H _ _ hr M h;refine⟨fun O=>(by rw[O]at hr;cases hr),fun j z=>?_⟩;by_cases m:j=i
  ·subst m;unfold sG;simp only[X];exact A6C y M h
  ·have:=ready_mono z m;rw[h.1]at this;cases this
 |succ fuel ih=>
  intro g F H A p hr M h;refine⟨fun O=>(by rw[O]at hr;cases hr),fun j z=>?_⟩;by_cases m:j=i
  ·subst m;unfold sG;simp only[X];exact A6C y M h
  ·obtain⟨u,oj,C,_⟩:=mem_ready.1 z;have G:=hW.not_ready A z m;have T:=p j oj C G u;obtain⟨a1,a2,a3⟩:=Oper.apart_spec T;have I: ∀k,W k→(g.setIfInBounds j true).getD k false=false:=fun k hk=>by
    rw[W5 (fun e:j=k=>G (by rw[e];exact hk))];exact A k hk
   have r: ∀k ok,ops[k]? =some ok→¬W k→(g.setIfInBounds j true).getD k true=false→q.apart ops ok=true:=fun k ok hk U Y=>by
    refine p k ok hk U ?_;by_cases J:j=k
    ·subst J;exact u
    ·rw[getD_set_ne true J]at Y;exact Y
   have h1:=h.2 j (ready_mono z m);unfold sG at h1⊢;simp only[C]at h1⊢;obtain⟨g1,g2,g3⟩:=h1;have L:=Q9 (F:=F) (ops:=ops) (o:=oj) (dst:=q.dst) (d:=d) a1;refine⟨g1,fun hl=>?_,?_⟩
   ·have V:=g2 hl;have key: ∀op:Op,(∀x∈op.operands.toList,(F.put q.dst d).ev x=F.ev x)→B5o bl (F.put q.dst d).ev op→B5o bl F.ev op:=fun op hv hr=>by
     cases op with
     |load t x=>
      have hx:=hv x (by simp[Op.operands]);show∀b∈rdB (F.ev x),b∈bl;rw[←hx];exact hr
     |_=>exact hr.elim
    exact key _ L V
   ·rw[B1t L]at g3;refine A4S (fun e H' hk=>⟨hk.1,ih (g.setIfInBounds j true) (F.put oj.dst e) H' I r (ready_mono hr (Ne.symm m)) (M.keep a3 hk.1) ?_⟩) g3;rw[Array.setIfInBounds_comm _ _ m,←A16 a2];exact hk.2
theorem B4R{K:Kg}{i:Nat}{q:Oper}{W:Nat→Prop}(u:ops[i]? =some q)(x:Closed md ops i W)(fuel:Nat)(d:Array Bool)(F:FEnv)(H:Heap)(o: ∀j,W j→d.getD j false=false)
  (e: ∀j oj,ops[j]? =some oj→d.getD j true=false→W j) (hr:i∈Region.ready md ops d) (h:A8Q P bl q (A97 P bl md ops K fuel (d.setIfInBounds i true)) F H):A97 P bl md ops K (fuel+1) d F H:=by
 refine⟨fun y=>(by rw[y]at hr;cases hr),fun j r=>?_⟩;by_cases g:j=i
 ·subst g;unfold sG;simp only[u];exact h
 ·obtain⟨m,oj,p,_⟩:=mem_ready.1 r;exact absurd (e j oj p m) (x.not_ready o r g)
def C1d(ops:Array Oper)(i:Nat)(acc:List Nat)(j:Nat):Bool:=match ops[j]? with
 |some o=>o.after.any fun e=>Region.binds .any e&&(e.on==i||acc.contains e.on)
 |none=>false
def A4z(ops:Array Oper)(i:Nat):List Nat→List Nat→List Nat
 | [],acc=>acc
 |j::l,acc=>A4z ops i l (if C1d ops i acc j=true then j::acc else acc)
def K9(P:Program)(ops:Array Oper):List Nat→List Nat→Bool
 | [],done=>(List.range ops.size).all fun i=>done.contains i
 |i::l,done=>(match ops[i]? with
  |some o=>(o.after.all fun e=> !Region.binds .any e||done.contains e.on)&&o.guard.isNone&& !done.contains i&& !l.contains i&&
    l.all fun j=>(A4z ops i l []).contains j||(J0 P o.op != .eff&&match ops[j]? with|some oj=>o.apart ops oj|none=>false)
  |none=>false)&&K9 P ops l (i::done)
def B5p(P:Program)(ops:Array Oper)(perm:List Nat):Bool:=decide (perm.length=ops.size)&&K9 P ops perm []
theorem A1Y{i:Nat}: ∀(l m:List Nat),(∀j∈m,∃oj,ops[j]? =some oj∧∃e∈oj.after,Region.binds .any e=true∧(e.on=i∨e.on∈m))→
  (∀j∈A4z ops i l m,∃oj,ops[j]? =some oj∧∃e∈oj.after,Region.binds .any e=true∧(e.on=i∨e.on∈A4z ops i l m))∧(∀j∈m,j∈A4z ops i l m)∧∀j∈A4z ops i l m,j∈m∨j∈l
 | [],m,h=>⟨h,fun j p=>p,fun j p=>.inl p⟩
 |k::l,m,h=>by
  unfold A4z;split
  ·rename_i hc;have q: ∃oj,ops[k]? =some oj∧∃e∈oj.after,Region.binds .any e=true∧(e.on=i∨e.on∈m):=by
    unfold C1d at hc;split at hc
    ·rename_i o ho;obtain⟨e,he,hb⟩:=Array.any_eq_true'.1 hc;simp only[D09,D2J,beq_iff_eq,List.contains_iff_mem]at hb;exact⟨o,ho,e,he,hb.1,hb.2⟩
    ·cases hc
   obtain⟨h1,r,u⟩:=A1Y l (k::m) (fun j p=>by
    rcases D1O.1 p with rfl|p
    ·obtain⟨oj,a,e,b,c,d⟩:=q;exact⟨oj,a,e,b,c,d.imp id (D1E _)⟩
    ·obtain⟨oj,a,e,b,c,d⟩:=h j p;exact⟨oj,a,e,b,c,d.imp id (D1E _)⟩)
   exact⟨h1,fun j p=>r j (D1E _ p),fun j p=>by
    rcases u j p with g|g
    ·rcases D1O.1 g with rfl|g
     ·exact .inr (D07 ..)
     ·exact .inl g
    ·exact .inr (D1E _ g)⟩
  ·obtain⟨h1,r,u⟩:=A1Y l m h;exact⟨h1,r,fun j p=>(u j p).imp id (D1E _)⟩
def A98(P:Program)(bl:List Nat)(ops:Array Oper)(K:Kg):List Nat→Kg
 | []=>K
 |i::l=>sG P bl ops i (A98 P bl ops K l)
theorem B4S{K:Kg}: ∀(l done:List Nat) (m:Array Bool),(∀j,m.getD j false=true↔j∈done)→m.size=ops.size→K9 P ops l done=true→
  ∀F H,A98 P bl ops K l F H→A97 P bl .any ops K l.length m F H:=by
 intro l
 induction l with
 |nil=>
  intro done m J hsz p F H h;refine⟨?_,h⟩;cases hr:Region.ready .any ops m with
  |nil=>rfl
  |cons x xs=>
   exfalso;have hx:x∈Region.ready .any ops m:=by rw[hr];simp
   obtain⟨h0,o,ho,_⟩:=mem_ready.1 hx;have L:=(D1L.1 ho).1;simp only[K9,D1X,List.mem_range,List.contains_iff_mem]at p;have:=(J x).2 (p x L);rw[K8 h0]at this;cases this
 |cons i l ih=>
  intro done m J hsz p F H h;simp only[K9,D09]at p;obtain⟨p,u⟩:=p;cases M:ops[i]? with
  |none=>rw[M]at p;cases p
  |some oi=>
  rw[M]at p;simp only[D09,Bool.not_eq_true',Option.isNone_iff_eq_none,D1X,D2J,List.contains_iff_mem,bne_iff_ne,ne_eq]at p;obtain⟨⟨⟨⟨he,hg⟩,X⟩,Y⟩,A⟩:=p;have b3:=(D1L.1 M).1;have I:i∉done:=fun g=>by rw[List.contains_iff_mem.2 g]at X;cases X
  have b4:i∉l:=fun g=>by rw[List.contains_iff_mem.2 g]at Y;cases Y
  have y:i∈Region.ready .any ops m:=by
   rw[mem_ready];refine⟨?_,oi,M,fun e a7 hb=>?_⟩
   ·have hf:m.getD i false=false:=by
     cases hh:m.getD i false with
     |false=>rfl
     |true=>exact absurd ((J i).1 hh) I
    have O:i<m.size:=by omega
    simp[O]at hf⊢;exact hf
   ·rw[J];rw[Array.all_eq_true_iff_forall_mem]at he;have:=he e a7;simpa [hb]using this
  have a9: ∀j,(m.setIfInBounds i true).getD j false=true↔j∈i::done:=fun j=>by
   by_cases T:i=j
   ·subst T;have O:i<m.size:=by omega
    simp[O]
   ·rw[getD_set_ne false T,J];simp[Ne.symm T]
  have a0:(m.setIfInBounds i true).size=ops.size:=by simpa using hsz
  obtain⟨w1,_,w3⟩:=A1Y (ops:=ops) (i:=i) l [] (fun j q=>by cases q)
  let W:Nat→Prop:=fun j=>j=i∨j∈A4z ops i l []
  have a4:Closed .any ops i W:=by
   refine⟨.inl rfl,fun j oj q b0 r=>?_⟩;rcases q with q|q
   ·exact absurd q b0
   ·obtain⟨b6,a,e,b,c,d⟩:=w1 j q;rw[r]at a;cases a;exact⟨e,b,c,d⟩
  --what comes later is not listed
  have C: ∀(l done:List Nat),K9 P ops l done=true→∀j∈l,j∉done:=by
   intro l
   induction l with
   |nil=>intro _ _ j q;cases q
   |cons k l U=>
    intro done p j q;simp only[K9,D09]at p;obtain⟨p,b1⟩:=p;rcases D1O.1 q with rfl|q
    ·split at p
     ·simp only[D09,Bool.not_eq_true']at p;intro g;rw[List.contains_iff_mem.2 g]at p;simp at p
     ·cases p
    ·exact fun g=>U (k::done) b1 j q (D1E _ g)
  have a5: ∀j,W j→m.getD j false=false:=fun j q=>by
   cases hh:m.getD j false with
   |false=>rfl
   |true=>
    have hd:=(J j).1 hh;rcases q with rfl|q
    ·exact absurd hd I
    ·rcases w3 j q with g|g
     ·cases g
     ·exact absurd (D1E _ hd) (C l (i::done) u j g)
  --all that is not listed stands in the list
  have G: ∀(l done:List Nat),K9 P ops l done=true→∀j,j<ops.size→j∈done∨j∈l:=by
   intro l
   induction l with
   |nil=>
    intro done p j q;simp only[K9,D1X,List.mem_range,List.contains_iff_mem]at p;exact .inl (p j q)
   |cons k l U=>
    intro done p j q;simp only[K9,D09]at p;rcases U (k::done) p.2 j q with g|g
    ·rcases D1O.1 g with rfl|g
     ·exact .inr (D07 ..)
     ·exact .inl g
    ·exact .inr (D1E _ g)
  have z: ∀j oj,ops[j]? =some oj→m.getD j true=false→j=i∨j∈l:=fun j oj r hu=>by
   have L:=(D1L.1 r).1;have hf:=K8 hu;rcases G l (i::done) u j L with g|g
   ·rcases D1O.1 g with rfl|g
    ·exact .inl rfl
    ·rw[(J j).2 g]at hf;cases hf
   ·exact .inr g
  have hst:A8Q P bl oi (A97 P bl .any ops K l.length (m.setIfInBounds i true)) F H:=by
   have h':A8Q P bl oi (A98 P bl ops K l) F H:=by
    have:sG P bl ops i (A98 P bl ops K l) F H:=h;unfold sG at this;simp only[M]at this;exact this
   exact B4Q (fun F' H' g=>ih (i::done) _ a9 a0 u F' H' g) h'
  by_cases hc:J0 P oi.op= .eff
  ·refine B4R M a4 l.length m F H a5 (fun j oj r hu=>?_) y hst;rcases z j oj r hu with rfl|V
   ·exact .inl rfl
   ·rcases A j V with g|g
    ·exact .inr g
    ·exact absurd hc g.1
  ·obtain⟨b2,d,hy,hK⟩:=C2r hc hst;refine B1u M b2 a4 l.length m F H a5 (fun j oj r a6 hu=>?_) y hy hK;rcases z j oj r hu with rfl|V
   ·exact absurd (.inl rfl) a6
   ·rcases A j V with g|g
    ·exact absurd (.inr g) a6
    ·have:=g.2;rw[r]at this;exact this
structure StO(N:Nat)(w0:World)(H0:Heap)(F:FEnv)(H:Heap)(a:Act)(w:World):Prop where
 size:a.tmps.size=N
 defers:a.defers= []
 env: ∀i,R w H (F i) (a.eval (.tmp i))
 sat:Sat H w
 ext:Ext H0 w0 w
 frm:From w0 H0 H
theorem StO.evR{N:Nat}{w0:World}{H0:Heap}{F:FEnv}{a:Act}{w:World}(h:StO N w0 H0 F H a w)(x:Operand):R w H (F.ev x) (a.eval x):=by
 cases x with
 |tmp t=>exact h.env t
 |const v=>exact A2W w H v
 |global g=>exact .glob g
 |func f=>exact .fn _ _ _ _ _ rfl rfl (by simp) (by simp)
theorem B1v{N:Nat}{w0:World}{H0:Heap}{o:Oper}{K:Kg}{F:FEnv}{a:Act}{w:World}(q: ∀t,o.dst=some t→t<N)(h:A8Q P bl o K F H)(hst:StO N w0 H0 F H a w):
  opSem P none o a w fun v w'=>∃p H',StO N w0 H0 p H' (a.put o.dst v) w'∧K p H':=by
 refine(O0 (o:=o) hst.sat hst.evR h.2.2).mono fun v w' hp=>?_;obtain⟨d,H',r,u,j,m,_,hk⟩:=hp;refine⟨F.put o.dst d,H',⟨?_,?_,fun i=>?_,u,hst.ext.trans hst.frm j,hst.frm.trans hst.ext.size m⟩,hk⟩
 ·cases e:o.dst<;>simp[Act.put,hst.size]
 ·cases e:o.dst<;>simp[Act.put,hst.defers]
 ·cases e:o.dst with
  |none=>exact(hst.env i).mono j m
  |some t=>
   have x:=q t e;simp only[FEnv.put];by_cases g:t=i
   ·subst g;rw[if_pos rfl];have:(a.put (some t) v).eval (.tmp t)=v:=by
     have y:t<a.tmps.size:=by rw[hst.size];exact x
     simp[Act.eval,Act.put,y]
    rw[this];exact r
   ·rw[if_neg g];have:(a.put (some t) v).eval (.tmp i)=a.eval (.tmp i):=by
     simp[Act.eval,Act.put,D1a g]
    rw[this];exact(hst.env i).mono j m
theorem A27{N:Nat}{w0:World}{H0:Heap}{K:Kg}{Q:Exit→Act→World→Prop}(m: ∀o∈ops.toList,∀t,o.dst=some t→t<N)
  (j: ∀F H a w,StO N w0 H0 F H a w→K F H→Q .normal a w): ∀(fuel:Nat) (d:Array Bool) (F:FEnv) (H:Heap) (a:Act) (w:World),
  A97 P bl md ops K fuel d F H→StO N w0 H0 F H a w→Go.wpAny P md ops Q fuel d a w
 |0,_,F,H,a,w,h,hst=>⟨h.1,j _ _ _ _ hst h.2⟩
 |fuel+1,d,F,H,a,w,h,hst=>⟨fun p=>j _ _ _ _ hst (h.1 p),fun i q=>by
   have h1:=h.2 i q;unfold sG at h1;unfold Go.wpOp;split
   ·rename_i hn;simp only[hn]at h1;exact A27 m j fuel _ _ _ _ _ h1 hst
   ·rename_i o ho;simp only[ho]at h1;have e:o∈ops.toList:=by rw[D1b];exact Array.mem_of_getElem? ho
    rw[if_pos (by simp[Region.wanted,h1.1])];exact .inl (opSem.wp ((B1v (m o e) h1 hst).mono fun v w' hv=>by
     obtain⟨r,H',g,hk⟩:=hv;exact A27 m j fuel _ _ _ _ _ hk g))⟩
def A17:List Oper→Nat→Option Oper
 | [],_=>none
 |o::_,0=>some o
 |_::l,i+1=>A17 l i
theorem A99: ∀(l:List Oper) (i:Nat),A17 l i=l[i]?
 | [],_=>rfl
 |_::_,0=>rfl
 |_::l,i+1=>by rw[A17,A99 l i];rfl
def wpG(P:Program)(bl:List Nat)(K:Env→Heap→Prop):List (Option Oper)→Env→Heap→Prop
 | [],E,H=>K E H
 |none::l,E,H=>False
 |some o::l,E,H=>(J0 P o.op= .load→B5o bl E.ev o.op)∧D3 P E.ev H (fun d H'=>(∀k∈bl,H' k=H k)∧wpG P bl K l (E.put o.dst d) H') o.op
theorem B0A{K:Env→Heap→Prop}(m: ∀(i:Nat) (o:Oper),ops[i]? =some o→o.guard=none): ∀(l:List Nat) (E:Env) (F:FEnv) (H:Heap),(∀t,E.get t=F t)→wpG P bl K (l.map (A17 ops.toList)) E H→
  A98 P bl ops (fun F H=>∃E,(∀t,E.get t=F t)∧K E H) l F H
 | [],E,F,H,e,h=>⟨E,e,h⟩
 |i::l,E,F,H,e,h=>by
  have g:F.ev=E.ev:=by
   funext x
   cases x with
   |tmp t=>exact(e t).symm
   |_=>rfl
  show sG P bl ops i _ F H;unfold sG;rw[D2D,A99,Array.getElem?_toList]at h;cases j:ops[i]? with
  |none=>rw[j]at h;exact h.elim
  |some o=>
   rw[j]at h;obtain⟨h1,p⟩:=h;simp only;refine⟨m i o j,by rw[g];exact h1,?_⟩;rw[g];refine A4S (fun d H' hk=>⟨hk.1,B0A m l (E.put o.dst d) _ H' (fun t=>?_) hk.2⟩) p;cases o.dst with
   |none=>exact e t
   |some u=>
    simp only[Env.put,Env.get,FEnv.put];split
    ·rfl
    ·exact e t
theorem A40: ∀(l done:List Nat),K9 P ops l done=true→∀(i:Nat) (o:Oper),i∈l→ops[i]? =some o→o.guard=none
 | [],_,_,i,_,d,_=>by cases d
 |k::l,done,h,i,o,d,ho=>by
  simp only[K9,D09]at h;rcases D1O.1 d with rfl|d
  ·rw[ho]at h;simp only[D09,Option.isNone_iff_eq_none]at h;exact h.1.1.1.1.2
  ·exact A40 l (k::done) h.2 i o d ho
theorem okOrd_cover: ∀(l done:List Nat),K9 P ops l done=true→∀j,j<ops.size→j∈done∨j∈l
 | [],done,h,j,d=>by
  simp only[K9,D1X,List.mem_range,List.contains_iff_mem]at h;exact .inl (h j d)
 |k::l,done,h,j,d=>by
  simp only[K9,D09]at h;rcases okOrd_cover l (k::done) h.2 j d with g|g
  ·rcases D1O.1 g with rfl|g
   ·exact .inr (D07 ..)
   ·exact .inl g
  ·exact .inr (D1E _ g)
theorem B5q{N:Nat}{w0:World}{H0:Heap}{id:Nat}{perm:List Nat}{K:Env→Heap→Prop}{Q:Exit→Act→World→Prop}{a:Act}{w:World}{E:Env}(hm:P.follows .mixedOrders=true)(d:B5p P ops perm=true)
  (p: ∀o∈ops.toList,∀t,o.dst=some t→t<N)
  (q: ∀E H a w,a.tmps.size=N→a.defers= []→(∀i,R w H (E.get i) (a.eval (.tmp i)))→Sat H w→Ext H0 w0 w→From w0 H0 H→K E H→Q .normal a w)
  (h1:a.tmps.size=N) (r:a.defers= []) (u: ∀i,R w H (E.get i) (a.eval (.tmp i))) (x:Sat H w) (h5:Ext H0 w0 w) (m:From w0 H0 H)
  (h:wpG P bl K (perm.map (A17 ops.toList)) E H):(Code.region id ops true).wp P Q a w:=by
 simp only[B5p,D09,D1I]at d;obtain⟨hlen,d⟩:=d;have y: ∀(i:Nat) (o:Oper),ops[i]? =some o→o.guard=none:=fun i o ho=>by
  rcases okOrd_cover perm [] d i (D1L.1 ho).1 with g|g
  ·cases g
  ·exact A40 perm [] d i o g ho
 have he:Ext H w {w with drawn:=w.drawn+1}:=Ext.drewN H w 1;have e:=x.same (w':={w with drawn:=w.drawn+1}) rfl he;refine wp_region_any hm ?_;rw[←hlen];refine A27 (P:=P) (bl:=bl) (md:=.any) (ops:=ops) (N:=N) (w0:=w0) (H0:=H0) (K:=fun F H=>∃E,(∀t,E.get t=F t)∧K E H) p (fun F H a w hst hk=>?_) perm.length _ E.get H a _ ?_ ?_
 ·obtain⟨E,z,hk⟩:=hk;exact q E H a w hst.size hst.defers (fun i=>by rw[z];exact hst.env i) hst.sat hst.ext hst.frm hk
 ·exact B4S perm [] _ (fun j=>by simp[Array.getElem?_replicate];split<;>simp) (by simp[hlen]) d E.get H (B0A y perm E E.get H (fun _=>rfl) h)
 ·exact⟨h1,r,fun i=>(u i).mono he (D2T _ _),e,h5.trans m he,m⟩
end
end
inductive AX where
 |normal
 |exit (id:Nat)
 |ret
def wpOps(P:Program)(gs:List (Option Nat))(K:Env→Heap→Prop):List Oper→Env→Heap→Prop
 | [],E,H=>K E H
 |o::l,E,H=>match o.guard with
  |none=>D3 P E.ev H (fun d H'=>wpOps P gs K l (E.put o.dst d) H') o.op
  |some (j,want)=>A14 E (I2 gs j) want (fun E=>D3 P E.ev H (fun d H'=>wpOps P gs K l (E.put o.dst d) H') o.op) (fun E=>wpOps P gs K l (E.put o.dst (.tuple [])) H)
structure St(N:Nat)(w0:World)(H0:Heap)(E:Env)(H:Heap)(a:Act)(w:World):Prop where
 size:a.tmps.size=N
 defers:a.defers= []
 env: ∀i,R w H (E.get i) (a.eval (.tmp i))
 sat:Sat H w
 ext:Ext H0 w0 w
 frm:From w0 H0 H
def A1A(E0:Env)(H0:Heap)(E:Env)(H:Heap):Prop:=∀(N:Nat) (w0:World) (Hz:Heap) (a:Act) (w:World),St N w0 Hz E H a w→St N w0 Hz E0 H0 a w
def B20(body:(Env→Heap→Prop)→Env→Heap→Prop)(E:Env)(H:Heap):Prop:=
 ∃(I:Nat→Env→Heap→Prop),(∃n E0 H0,A1A E0 H0 E H∧I n E0 H0)∧∀n E H,I n E H→body (fun E' H'=>∃m E0 H0,m<n∧A1A E0 H0 E' H'∧I m E0 H0) E H
def Env.fix(E:Env)(c:Operand)(b:Bool):Env:=match c with
 | .tmp t=>(t,.bool b)::E
 |_=>E
inductive Rc where
 |rd (sx:Bool)
 |par
 |ord (perm:List Nat)
 |rg
 |wk
def A0t(id:Nat):List (Nat×Rc)→Option Rc
 | []=>none
 |(i,sx)::Z=>if id=i then some sx else A0t id Z
def A8R(P:Program)(sx:Bool)(bl:List Nat)(K:Env→Heap→Prop):List Oper→Env→Heap→Prop
 | [],E,H=>K E H
 |o::l,E,H=>o.guard=none∧B5a P sx bl E.ev H (fun d H'=>A8R P sx bl K l (E.put o.dst d) H') o.op
def Z2(P:Program)(bl:List Nat)(gs:List (Option Nat))(K:Env→Heap→Prop):List Oper→Env→Heap→Prop
 | [],E,H=>K E H
 |o::l,E,H=>match o.guard with
  |none=>A5y P bl E.ev H (fun d H'=>Z2 P bl gs K l (E.put o.dst d) H') o.op
  |some (j,want)=>A14 E (I2 gs j) want (fun E=>A5y P bl E.ev H (fun d H'=>Z2 P bl gs K l (E.put o.dst d) H') o.op) (fun E=>Z2 P bl gs K l (E.put o.dst (.tuple [])) H)
def wp(P:Program)(Z:List (Nat×Rc)):Code→(AX→Env→Heap→Prop)→Env→Heap→Prop
 | .skip,Q,E,H=>Q .normal E H
 | .region id ops _,Q,E,H=>match A0t id Z with
  |none=>wpOps P (ops.toList.map (·.dst)) (Q .normal) ops.toList E H
  |some (.rd sx)=>∃bl,(∀k∈bl,H k≠none)∧A8R P sx bl (Q .normal) ops.toList E H
  |some .par=>∃(cs:Nat→CR) (bs:Nat→Bl),B4O bs 0 ops.toList∧wpP P (ops.toList.map (·.dst)) cs bs (Q .normal) 0 ops.toList E H
  |some (.ord perm)=>∃bl:List Nat,wpG P bl (Q .normal) (perm.map (A17 ops.toList)) E H
  |some .rg=>∃bl,(∀k∈bl,H k≠none)∧Z2 P bl (ops.toList.map (·.dst)) (Q .normal) ops.toList E H
  |some .wk=>∃E0 H0,A1A E0 H0 E H∧wpOps P (ops.toList.map (·.dst)) (Q .normal) ops.toList E0 H0
 | .seq a b,Q,E,H=>wp P Z a (fun x E H=>match x with| .normal=>wp P Z b Q E H| .exit i=>Q (.exit i) E H| .ret=>Q .ret E H) E H
 | .cond c x y,Q,E,H=>∃b,E.ev c= .bool b∧(b=true→wp P Z x Q (E.fix c true) H)∧(b=false→wp P Z y Q (E.fix c false) H)
 | .block id c,Q,E,H=>wp P Z c (fun x E H=>match x with| .normal=>Q .normal E H| .exit i=>if i=id then Q .normal E H else Q (.exit i) E H| .ret=>Q .ret E H) E H
 | .loop c,Q,E,H=>B20 (fun K=>wp P Z c fun x E H=>match x with| .normal=>K E H| .exit i=>Q (.exit i) E H| .ret=>Q .ret E H) E H
 | .exit id,Q,E,H=>Q (.exit id) E H
 | .ret,Q,E,H=>Q .ret E H
 | .scope c,Q,E,H=>wp P Z c Q E H
 | .label _,Q,E,H=>Q .normal E H
 |_,_,_,_=>False
def O1(P:Program)(Z:List (Nat×Rc))(N:Nat):Code→Bool
 | .region id ops d=>(ops.all fun o=>match o.dst with|some t=>decide (t<N)|none=>true)&&(match A0t id Z with|none=> !d||A4O P none ops|some (.rd sx)=> !d||A4O P (some sx) ops|some .par=>d&&B2z P ops|some (.ord perm)=>d&&B5p P ops perm|some .rg=> !d||A4O P (some true) ops|some .wk=> !d||A4O P none ops)
 | .seq a b=>O1 P Z N a&&O1 P Z N b
 | .cond _ x y=>O1 P Z N x&&O1 P Z N y
 | .block _ c=>O1 P Z N c
 | .loop c=>O1 P Z N c
 | .scope c=>O1 P Z N c
 |_=>true
section
variable {P:Program} {Z:List (Nat×Rc)} {N:Nat} {w0:World} {H0:Heap}
theorem St.ev{E:Env}{H:Heap}{a:Act}{w:World}(h:St N w0 H0 E H a w)(x:Operand):R w H (E.ev x) (a.eval x):=by
 cases x with
 |tmp t=>exact h.env t
 |const v=>exact A2W w H v
 |global g=>exact .glob g
 |func f=>exact .fn _ _ _ _ _ rfl rfl (by simp) (by simp)
theorem St.put{E:Env}{H H':Heap}{a:Act}{w w':World}(h:St N w0 H0 E H a w){dst:Option Tmp}(j: ∀t,dst=some t→t<N){d:D}{v:Value}(hv:R w' H' d v)(hs:Sat H' w')(he:Ext H w w')(g:From w H H'):
  St N w0 H0 (E.put dst d) H' (a.put dst v) w':=by
 refine⟨?_,?_,fun i=>?_,hs,h.ext.trans h.frm he,h.frm.trans h.ext.size g⟩
 ·cases dst<;>simp[Act.put,h.size]
 ·cases dst<;>exact h.defers
 ·cases dst with
  |none=>exact(h.env i).mono he g
  |some t=>
   have m:=j t rfl;simp only[Env.put,Env.get];by_cases e:t=i
   ·subst e;rw[if_pos rfl];have:(a.put (some t) v).eval (.tmp t)=v:=by
     have o:t<a.tmps.size:=by rw[h.size];exact m
     simp[Act.eval,Act.put,o]
    rw[this];exact hv
   ·rw[if_neg e];have:(a.put (some t) v).eval (.tmp i)=a.eval (.tmp i):=by
     simp[Act.eval,Act.put,D1a e]
    rw[this];exact(h.env i).mono he g
theorem St.know{E:Env}{H:Heap}{a:Act}{w:World}(h:St N w0 H0 E H a w){s:Nat}{d:D}(g:E.get s=d):St N w0 H0 ((s,d)::E) H a w:=by
 refine⟨h.size,h.defers,fun i=>?_,h.sat,h.ext,h.frm⟩;simp only[Env.get];by_cases e:s=i
 ·subst e;rw[if_pos rfl,←g];exact h.env s
 ·rw[if_neg e];exact h.env i
theorem St.weak{E d:Env}{H H':Heap}{a:Act}{w:World}(h:St N w0 H0 E H a w)(hw:A1A d H' E H):St N w0 H0 d H' a w:=hw _ _ _ _ _ h
theorem A5a{E e:Env}{H H':Heap}(o: ∀p∈e,E.get p.1=p.2)(hl:H'.Le H):A1A e H' E H:=by
 intro N w0 H0 a w h;refine⟨h.size,h.defers,fun i=>?_,h.sat.less hl,h.ext,h.frm.less hl⟩;have key: ∀(L:Env),(∀p∈L,E.get p.1=p.2)→R w H' (L.get i) (a.eval (.tmp i)):=by
  intro L
  induction L with
  |nil=>intro _;exact .undef _
  |cons p L q=>
   intro g;obtain⟨j,d⟩:=p;simp only[Env.get];by_cases m:j=i
   ·subst m;rw[if_pos rfl];have:=g (j,d) (by simp);simp only at this;rw[←this];exact(h.env j).less hl
   ·rw[if_neg m];exact q (fun p hp=>g p (by simp[hp]))
 exact key e o
theorem A0c{ops:Array Oper}{K:Env→Heap→Prop}: ∀(l:List Oper) (E:Env) (H:Heap) (a:Act) (w:World),(∀o∈l,∀t,o.dst=some t→t<N)→wpOps P (ops.toList.map (·.dst)) K l E H→St N w0 H0 E H a w→
  wpA P none ops (fun a' w'=>∃i H',St N w0 H0 i H' a' w'∧K i H') l a w:=by
 intro l
 induction l with
 |nil=>intro E H a w _ h hst;exact⟨E,H,hst,h⟩
 |cons o l G=>
  intro E H a w I h hst;have q: ∀o∈l,∀t,o.dst=some t→t<N:=fun o' y=>I o' (by simp[y]);have r:=I o (by simp);have run: ∀E,St N w0 H0 E H a w→D3 P E.ev H (fun d H'=>wpOps P (ops.toList.map (·.dst)) K l (E.put o.dst d) H') o.op→opSem P none o a w fun v w'=>wpA P none ops (fun a' w'=>∃i H',St N w0 H0 i H' a' w'∧K i H') l (a.put o.dst v) w':=by
   intro E hst h;refine(O0 hst.sat hst.ev h).mono fun v w' hp=>?_;obtain⟨d,H',h1,z,L,M,h5⟩:=hp;exact G _ _ _ _ q h5 (hst.put r h1 z L M)
  have skip: ∀E,St N w0 H0 E H a w→wpOps P (ops.toList.map (·.dst)) K l (E.put o.dst (.tuple [])) H→wpA P none ops (fun a' w'=>∃i H',St N w0 H0 i H' a' w'∧K i H') l (a.put o.dst undef) w:=
   fun E hst h=>G _ _ _ _ q h (hst.put r (.tuple [] #[] rfl (by simp)) hst.sat (D2U _ _) (D2T _ _))
  unfold wpOps at h;unfold wpA;split at h
  ·rename_i m;rw[if_pos (by simp[Region.wanted,m])];exact run E hst h
  ·rename_i j g m;have e:I2 (ops.toList.map (·.dst)) j=(ops[j]?).bind (·.dst):=by
    unfold I2;rw[D1J];cases J:ops[j]? with
    |none=>simp[J]
    |some o=>simp[J]
   unfold A14 at h;split at h
   ·rename_i hs;have p:yielded ops a.tmps j=none:=by
     unfold yielded;rw[e]at hs;rw[hs];rfl
    rw[if_neg (by simp[Region.wanted,m,p])];exact skip E hst h
   ·rename_i s hs;rcases h with⟨O,h⟩|⟨b,hb,h1,z⟩
    ·have hv:=hst.env s;rw[O]at hv;obtain⟨vs,hv,_⟩:=hv.tuple_inv;have p:yielded ops a.tmps j=none:=by
      unfold yielded;rw[e]at hs;rw[hs];simp only[D1Q];simp only[Act.eval]at hv;cases x:a.tmps[s]? with
      |none=>rfl
      |some u=>
       simp[x]at hv;subst hv;rfl
     rw[if_neg (by simp[Region.wanted,m,p])];exact skip E hst h
    have hv:=hst.env s;rw[hb]at hv;have hv:=hv.bool_inv;have p:yielded ops a.tmps j=some b:=by
     unfold yielded;rw[e]at hs;rw[hs];simp only[D1Q];simp only[Act.eval]at hv;cases x:a.tmps[s]? with
     |none=>
      simp[x]at hv;cases hv
     |some u=>
      simp[x]at hv;subst hv;rfl
    by_cases A:b=g
    ·subst A;rw[if_pos (by simp[Region.wanted,m,p])];exact run _ (hst.know hb) (h1 rfl)
    ·have C:b= !g:=by cases b<;>cases g<;>simp_all
     subst C;rw[if_neg (by simp[Region.wanted,m,p])];exact skip _ (hst.know hb) (z rfl)
theorem A3c{ops:Array Oper}{bl:List Nat}{K:Env→Heap→Prop}: ∀(l:List Oper) (E:Env) (H:Heap) (a:Act) (w:World),(∀o∈l,∀t,o.dst=some t→t<N)→(∀k∈bl,k<w.heap.size)→Z2 P bl (ops.toList.map (·.dst)) K l E H→St N w0 H0 E H a w→
  wpA P (some (true,bl)) ops (fun a' w'=>∃i H',St N w0 H0 i H' a' w'∧K i H') l a w:=by
 intro l
 induction l with
 |nil=>intro E H a w _ _ h hst;exact⟨E,H,hst,h⟩
 |cons o l I=>
  intro E H a w J m h hst;have r: ∀o∈l,∀t,o.dst=some t→t<N:=fun o' z=>J o' (by simp[z]);have x:=J o (by simp);have run: ∀E,St N w0 H0 E H a w→A5y P bl E.ev H (fun d H'=>Z2 P bl (ops.toList.map (·.dst)) K l (E.put o.dst d) H') o.op→opSem P (some (true,bl)) o a w fun v w'=>wpA P (some (true,bl)) ops (fun a' w'=>∃i H',St N w0 H0 i H' a' w'∧K i H') l (a.put o.dst v) w':=by
   intro E hst h;refine(A9y m hst.sat hst.ev h).mono fun v w' hp=>?_;obtain⟨d,H',h1,A,L,O,h5⟩:=hp;exact I _ _ _ _ r (fun k hk=>D1s (m k hk) L.size) h5 (hst.put x h1 A L O)
  have skip: ∀E,St N w0 H0 E H a w→Z2 P bl (ops.toList.map (·.dst)) K l (E.put o.dst (.tuple [])) H→wpA P (some (true,bl)) ops (fun a' w'=>∃i H',St N w0 H0 i H' a' w'∧K i H') l (a.put o.dst undef) w:=
   fun E hst h=>I _ _ _ _ r m h (hst.put x (.tuple [] #[] rfl (by simp)) hst.sat (D2U _ _) (D2T _ _))
  unfold Z2 at h;unfold wpA;split at h
  ·rename_i p;rw[if_pos (by simp[Region.wanted,p])];exact run E hst h
  ·rename_i j g p;have e:I2 (ops.toList.map (·.dst)) j=(ops[j]?).bind (·.dst):=by
    unfold I2;rw[D1J];cases M:ops[j]? with
    |none=>simp[M]
    |some o=>simp[M]
   unfold A14 at h;split at h
   ·rename_i hs;have q:yielded ops a.tmps j=none:=by
     unfold yielded;rw[e]at hs;rw[hs];rfl
    rw[if_neg (by simp[Region.wanted,p,q])];exact skip E hst h
   ·rename_i s hs;rcases h with⟨T,h⟩|⟨b,hb,h1,A⟩
    ·have hv:=hst.env s;rw[T]at hv;obtain⟨vs,hv,_⟩:=hv.tuple_inv;have q:yielded ops a.tmps j=none:=by
      unfold yielded;rw[e]at hs;rw[hs];simp only[D1Q];simp only[Act.eval]at hv;cases y:a.tmps[s]? with
      |none=>rfl
      |some u=>
       simp[y]at hv;subst hv;rfl
     rw[if_neg (by simp[Region.wanted,p,q])];exact skip E hst h
    have hv:=hst.env s;rw[hb]at hv;have hv:=hv.bool_inv;have q:yielded ops a.tmps j=some b:=by
     unfold yielded;rw[e]at hs;rw[hs];simp only[D1Q];simp only[Act.eval]at hv;cases y:a.tmps[s]? with
     |none=>
      simp[y]at hv;cases hv
     |some u=>
      simp[y]at hv;subst hv;rfl
    by_cases C:b=g
    ·subst C;rw[if_pos (by simp[Region.wanted,p,q])];exact run _ (hst.know hb) (h1 rfl)
    ·have G:b= !g:=by cases b<;>cases g<;>simp_all
     subst G;rw[if_neg (by simp[Region.wanted,p,q])];exact skip _ (hst.know hb) (A rfl)
theorem A3d{ops:Array Oper}{sx:Bool}{bl:List Nat}{K:Env→Heap→Prop}: ∀(l:List Oper) (E:Env) (H:Heap) (a:Act) (w:World),(∀o∈l,∀t,o.dst=some t→t<N)→(∀k∈bl,k<w.heap.size)→A8R P sx bl K l E H→St N w0 H0 E H a w→
  wpA P (some (sx,bl)) ops (fun a' w'=>∃i H',St N w0 H0 i H' a' w'∧K i H') l a w:=by
 intro l
 induction l with
 |nil=>intro E H a w _ _ h hst;exact⟨E,H,hst,h⟩
 |cons o l p=>
  intro E H a w j e h hst;obtain⟨q,h⟩:=h;unfold wpA;rw[if_pos (by simp[Region.wanted,q])];refine(A11 e hst.sat hst.ev h).mono fun v w' hp=>?_;obtain⟨d,H',h1,r,m,u,h5⟩:=hp;exact p _ _ _ _ (fun o' g=>j o' (by simp[g])) (fun k hk=>D1s (e k hk) m.size) h5 (hst.put (j o (by simp)) h1 r m u)
def lift(N:Nat)(w0:World)(H0:Heap)(Q:AX→Env→Heap→Prop):Exit→Act→World→Prop
 | .normal,a,w=>∃E H,St N w0 H0 E H a w∧Q .normal E H
 | .exit id,a,w=>∃E H,St N w0 H0 E H a w∧Q (.exit id) E H
 | .ret,a,w=>∃E H,St N w0 H0 E H a w∧Q .ret E H
 |_,_,_=>False
theorem B5r{c:Code}{Q:Exit→Act→World→Prop}(I:Nat→Act→World→Prop){n:Nat}{a:Act}{w:World}(p:I n a w)
  (g: ∀n a w,I n a w→c.wp P (Exit.then (fun a' w'=>∃m,m<n∧I m a' w') Q) a w):(Code.loop c).wp P Q a w:=by
 intro b k cs;have key: ∀n a w,I n a w→∃e a' w',Q e a' w'∧Arrives P (lone (b.at a (.code c:: .inLoop c::k)) cs w) b k cs e a' w':=by
  intro n
  induction n using Nat.strongRecOn with
  |_ n q=>
   intro a w r;obtain⟨e,a1,i,hq,d⟩:=g n a w r b (.inLoop c::k) cs;cases e with
   |normal=>
    obtain⟨m,hm,j⟩:=hq;obtain⟨e2,a2,u,o,h⟩:=q m hm a1 i j;exact⟨e2,a2,u,o,.of_steps (Steps.trans d (.one step_inLoop)) h⟩
   |exit id=>exact⟨_,a1,i,hq,.pass (x:=.inLoop c) rfl (fun _ _=>.inl (by simp)) d⟩
   |goto l=>exact⟨_,a1,i,hq,.pass (x:=.inLoop c) rfl (fun _ _=>.inl (by simp)) d⟩
   |ret=>exact⟨_,a1,i,hq,.pass (x:=.inLoop c) rfl (fun _ _=>.inl (by simp)) d⟩
   |panic y=>exact⟨_,a1,i,hq,.pass (x:=.inLoop c) rfl (fun _ _=>.inl (by simp)) d⟩
   |outgrown=>exact⟨_,a1,i,hq,.pass (x:=.inLoop c) rfl (fun _ _=>.inl (by simp)) d⟩
 obtain⟨e,a',w',hq,d⟩:=key n a w p;exact⟨e,a',w',hq,.of_steps (.one step_loop) d⟩
theorem A0E(hm:P.follows .mixedOrders=true): ∀(c:Code) (Q:AX→Env→Heap→Prop) (E:Env) (H:Heap) (a:Act) (w:World),O1 P Z N c=true→wp P Z c Q E H→St N w0 H0 E H a w→c.wp P (lift N w0 H0 Q) a w:=by
  intro c
  induction c with
  |skip=>intro Q E H a w _ h hst;exact Go.wp_skip ⟨E,H,hst,h⟩
  |region id ops d=>
    intro Q E H a w g h hst;simp only[O1,D09]at g
    have A: ∀o∈ops.toList,∀t,o.dst=some t→t<N:=fun o ho t U=>by
      have:=Array.all_eq_true_iff_forall_mem.1 g.1 o (by simpa using ho);rw[U]at this;simpa using this
    have he:Ext H w {w with drawn:=w.drawn+1}:=Ext.drewN H w 1;have p:St N w0 H0 E H a {w with drawn:=w.drawn+1}:=⟨hst.size,hst.defers,fun i=>(hst.env i).mono he (D2T _ _),hst.sat.same rfl he,hst.ext.trans hst.frm he,hst.frm⟩
    unfold wp at h;cases hz:A0t id Z with
    |none=>
      rw[hz]at h g;cases d with
      |false=>exact z7 (fun a w h=>h) (A0c ops.toList E H a w A h hst)
      |true=>exact A3a (F:=none) hm (by simpa using g.2) (fun a w h=>h) (A0c ops.toList E H a _ A h p)
    |some rc=>
      rw[hz]at h g;cases rc with
      |par=>
        simp only[D09]at g;obtain⟨_,J,u⟩:=g;subst J;obtain⟨cs,bs,Y,h⟩:=h;exact B5n hm u A (fun E H a w k1 k2 k3 k4 k5 k6 hk=>⟨E,H,⟨k1,k2,k3,k4,k5,k6⟩,hk⟩) hst.size hst.defers hst.env hst.sat hst.ext hst.frm Y h
      |ord perm=>
        simp only[D09]at g;obtain⟨_,J,u⟩:=g;subst J;obtain⟨bl,h⟩:=h;exact B5q hm u A (fun E H a w k1 k2 k3 k4 k5 k6 hk=>⟨E,H,⟨k1,k2,k3,k4,k5,k6⟩,hk⟩) hst.size hst.defers hst.env hst.sat hst.ext hst.frm h
      |wk=>
        obtain⟨E0,W,C,h⟩:=h
        (cases d with
        |false=>exact z7 (fun a w h=>h) (A0c ops.toList E0 W a w A h (hst.weak C))
        |true=>exact A3a (F:=none) hm (by simpa using g.2) (fun a w h=>h) (A0c ops.toList E0 W a _ A h (p.weak C)))
      |rg=>
      obtain⟨bl,L,h⟩:=h
      have z: ∀w:World,Sat H w→∀k∈bl,k<w.heap.size:=fun w hs k hk=>by
        cases ho:H k with
        |none=>exact absurd ho (L k hk)
        |some o=>exact hs.lt ho
      (cases d with
      |false=>exact z7 (fun a w h=>h) (A3c (bl:=bl) ops.toList E H a w A (z _ hst.sat) h hst)
      |true=>exact A3a (F:=some (true,bl)) hm (by simpa using g.2) (fun a w h=>h) (A3c (bl:=bl) ops.toList E H a _ A (z _ p.sat) h p))
      |rd sx=>
      obtain⟨bl,L,h⟩:=h
      have z: ∀w:World,Sat H w→∀k∈bl,k<w.heap.size:=fun w hs k hk=>by
        cases ho:H k with
        |none=>exact absurd ho (L k hk)
        |some o=>exact hs.lt ho
      cases d with
      |false=>exact z7 (fun a w h=>h) (A3d (sx:=sx) (bl:=bl) ops.toList E H a w A (z _ hst.sat) h hst)
      |true=>exact A3a (F:=some (sx,bl)) hm (by simpa using g.2) (fun a w h=>h) (A3d (sx:=sx) (bl:=bl) ops.toList E H a _ A (z _ p.sat) h p)
  |seq x y M O=>
    intro Q E H a w g h hst;simp only[O1,D09]at g;refine Go.wp_seq (Go.wp_mono (M _ E H a w g.1 h hst) fun e a' w' he=>?_);cases e with
    |normal=>obtain⟨r,H',j,q⟩:=he;exact O Q r H' a' w' g.2 q j
    |exit id=>obtain⟨r,H',j,q⟩:=he;exact⟨r,H',j,q⟩
    |ret=>obtain⟨r,H',j,q⟩:=he;exact⟨r,H',j,q⟩
    |_=>exact he.elim
  |cond c x y M O=>
    intro Q E H a w g h hst;simp only[O1,D09]at g;obtain⟨b,hb,h1,h2⟩:=h;have hv:=hst.ev c;rw[hb]at hv
    have G: ∀b',E.ev c= .bool b'→St N w0 H0 (E.fix c b') H a w:=fun b' a0=>by
      cases c with
      |tmp t=>exact hst.know a0
      |_=>exact hst
    refine Go.wp_cond_split hv.bool_inv (fun U=>?_) (fun U=>?_)
    · subst U;exact M Q _ H a w g.1 (h1 rfl) (G _ hb)
    · subst U;exact O Q _ H a w g.2 (h2 rfl) (G _ hb)
  |block id c V=>
    intro Q E H a w g h hst;simp only[O1]at g;refine Go.wp_block (Go.wp_mono (V _ E H a w g h hst) fun e a' w' he=>?_);cases e with
    |normal=>obtain⟨r,H',j,q⟩:=he;exact⟨r,H',j,q⟩
    |exit i=>
      obtain⟨r,H',j,q⟩:=he;simp only[Exit.inBlock];by_cases X:i=id
      · rw[if_pos X];simp only[X,if_true]at q;exact⟨r,H',j,q⟩
      · rw[if_neg X];simp only[X,if_false]at q;exact⟨r,H',j,q⟩
    |ret=>obtain⟨r,H',j,q⟩:=he;exact⟨r,H',j,q⟩
    |_=>exact he.elim
  |loop c V=>
    intro Q E H a w g h hst;simp only[O1]at g;obtain⟨I,⟨n,E0,W,hw,hI⟩,T⟩:=h;refine B5r (fun n a w=>∃E H,St N w0 H0 E H a w∧I n E H) (n:=n) ⟨E0,W,hst.weak hw,hI⟩ fun n a w a4=>?_;obtain⟨E1,H1,p,a5⟩:=a4;refine Go.wp_mono (V _ E1 H1 a w g (T n E1 H1 a5) p) fun e a' w' he=>?_;cases e with
    |normal=>
      obtain⟨r,H',j,m,E2,H2,a6,C,a7⟩:=he;exact⟨m,a6,E2,H2,j.weak C,a7⟩
    |exit id=>obtain⟨r,H',j,q⟩:=he;exact⟨r,H',j,q⟩
    |ret=>obtain⟨r,H',j,q⟩:=he;exact⟨r,H',j,q⟩
    |_=>exact he.elim
  |exit id=>intro Q E H a w _ h hst;exact Go.wp_exit ⟨E,H,hst,h⟩
  |ret=>intro Q E H a w _ h hst;exact Go.wp_ret ⟨E,H,hst,h⟩
  |scope c V=>
    intro Q E H a w g h hst;simp only[O1]at g;refine Go.wp_scope_straight (Go.wp_mono (V Q E H a w g h hst) fun e a' w' he=>?_);cases e with
    |goto l=>exact he.elim
    |_=>exact he
  |label l=>intro Q E H a w _ h hst;exact Go.wp_label ⟨E,H,hst,h⟩
  |_=>intro Q E H a w _ h _;exact h.elim
end
def A0d(P:Program)(E:Env)(H:Heap):ResultVar→Option D
 | .tmp t=>some (E.get t)
 | .cell a t=>A0B P t (E.get a) H
def A28(P:Program)(rs:List ResultVar)(E:Env)(H:Heap):Option D:=(rs.mapM (A0d P E H)).map fun
 | [d]=>d
 |ds=>.tuple ds
def Shift(H:Heap)(d:D)(H':Heap)(d':D):Prop:=∀w v,R w H d v→Sat H w→R w H' d' v∧Sat H' w∧∀k,H.held k=false→H'.held k=false
theorem Shift.less{H H':Heap}(h:H'.Le H)(d:D):Shift H d H' d:=fun _ _ hr hs=>⟨hr.less h,hs.less h,fun _ hn=>h.held hn⟩
theorem Shift.trans{H H' j:Heap}{d d' m:D}(h:Shift H d H' d')(k:Shift H' d' j m):Shift H d j m:=fun w v hr hs=>
 let ⟨a,b,c⟩:=h w v hr hs;let ⟨e,f,g⟩:=k w v a b;⟨e,f,fun i o=>g i (c i o)⟩
def A8S(P:Program)(rs:List ResultVar)(Q:D→Heap→Prop):AX→Env→Heap→Prop
 | .exit _,_,_=>False
 |_,E,H=>∃r,A28 P rs E H=some r∧∃H' r',Shift H r H' r'∧Q r' H'
def W6:Nat→List D→Env
 |_,[]=>[]
 |i,d::ds=>(i,d)::W6 (i+1) ds
section
variable {P:Program}
theorem A0F: ∀(ds:List D) (k i:Nat),(W6 k ds).get i=if k≤i then(ds[i-k]?).getD .undef else .undef
 | [],k,i=>by simp[W6,Env.get]
 |d::ds,k,i=>by
  simp only[W6,Env.get];by_cases e:k=i
  ·subst e;rw[if_pos rfl,if_pos (D1G _)];simp
  ·rw[if_neg e,A0F ds];by_cases h:k+1≤i
   ·rw[if_pos h,if_pos (by omega),show i-k=(i-(k+1))+1 by omega,D1S]
   ·rw[if_neg h,if_neg (by omega)]
theorem A2b{N:Nat}{w0:World}{H0:Heap}{E:Env}{H:Heap}{a:Act}{w:World}(hst:St N w0 H0 E H a w){fn:Func}{r:D}(h:A28 P fn.results.toList E H=some r):
  ∃v,(results fn a.tmps).run P w= .ok v w∧R w H r v:=by
 unfold A28 at h;obtain⟨ds,G,hr⟩:=D05.1 h;have key: ∀(p:List ResultVar) (ds:List D),p.mapM (A0d P E H)=some ds→∃vs:List Value,(p.mapM fun(x:ResultVar)=>match x with| .tmp t=>(pure (a.tmps.getD t undef):Sem Value)| .cell b t=>do loadVar t (←asAddr (a.tmps.getD b undef))).run P w= .ok vs w∧ds.length=vs.length∧∀(i:Nat) d,ds[i]? =some d→R w H d (vs.getD i Go.undef):=by
  intro p
  induction p with
  |nil=>intro ds h;simp at h;subst h;exact⟨[],rfl,rfl,by simp⟩
  |cons x p T=>
   intro ds h;simp only[List.mapM_cons,Option.bind_eq_bind,D08,Option.pure_def]at h;obtain⟨U,C,V,h1,W⟩:=h;cases W;obtain⟨vs,g,hl,e⟩:=T V h1;have one: ∃v,(match x with| .tmp t=>(pure (a.tmps.getD t undef):Sem Value)| .cell b t=>do loadVar t (←asAddr (a.tmps.getD b undef))).run P w= .ok v w∧R w H U v:=by
    cases x with
    |tmp t=>
     simp only[A0d,D1Y]at C;subst C;exact⟨_,rfl,hst.env t⟩
    |cell b t=>
     simp only[A0d]at C;obtain⟨u,j,I⟩:=A5z (P:=P) hst.sat C (hst.env b);refine⟨u,?_,I⟩;unfold Instr.loadAt at j;simp only[Act.eval]at j;have J: ∀(z:Value) (A:Addr) (w:World),(Instr.sureAddr z).run P w= .ok A w→(asAddr z).run P w= .ok A w:=by
      intro z A w L;cases z with
      |pointer o=>
       cases o with
       |none=>exact absurd L (by simp[Instr.sureAddr,stuck])
       |some y=>exact L
      |_=>exact absurd L (by simp[Instr.sureAddr,stuck])
     rw[Sem.run_bind]at j⊢;cases hs:(Instr.sureAddr (a.tmps.getD b undef)).run P w with
     |ok A w'=>
      have M:w'=w:=by
       unfold Instr.sureAddr at hs;split at hs
       ·cases hs;rfl
       ·cases hs
      subst M;rw[hs]at j;rw[J _ _ _ hs];exact j
     |halt x w'=>rw[hs]at j;cases j
   obtain⟨v,hv,O⟩:=one;refine⟨v::vs,?_,by simp[hl],fun i d m=>?_⟩
   ·rw[List.mapM_cons,Sem.run_bind,hv];simp only[Result.andThen_ok];rw[Sem.run_bind,g];rfl
   ·cases i with
    |zero=>simp at m;subst m;simpa using O
    |succ i=>simp at m;simpa using e i d m
 obtain⟨vs,g,hl,e⟩:=key _ _ G;have q:(results fn a.tmps).run P w= .ok (if h:vs.toArray.size=1 then vs.toArray[0]else .tuple vs.toArray) w:=by
  unfold results;rw[Sem.run_bind,Array.mapM_eq_mapM_toList];simp only[Functor.map];rw[Sem.run_bind'];exact congrArg (fun r:Result (List Value)=>(r.andThen fun a w'=>Sem.run P ((Sem.pure ∘ List.toArray) a) w').andThen fun a w'=>Sem.run P (pure (if h:a.size=1 then a[0]else Value.tuple a)) w') g
 refine⟨_,q,?_⟩
 match ds,vs,hl,hr,e with
 | [d],[v],_,hr,e=>simp only at hr;subst hr;simpa using e 0 d rfl
 | [],[],_,hr,e=>simp only at hr;subst hr;exact .tuple _ _ rfl (by simp)
 |d1::X::ds,v1::v2::vs,hl,hr,e=>
  simp only at hr;subst hr;rw[dif_neg (by simp)];exact .tuple _ _ (by simpa using hl) (fun i d m=>by simpa using e i d m)
theorem A8T{f:Nat}(Z:List (Nat×Rc)){fn:Func}{c:Code}{args:List D}{H:Heap}{Q:D→Heap→Prop}(hm:P.follows .mixedOrders=true)(C:P.funcs[f]? =some fn)(hb:fn.body=some c)(o:A1y P f=true)(hn:args.length≤fn.ntmps)
  (p:O1 P Z fn.ntmps c=true) (h:wp P Z c (A8S P fn.results.toList Q) (W6 0 args) H):ACalls P f args H Q:=by
 refine⟨o,fun w vs hl G hs=>calls_of_wp C hb ?_⟩;have hst:St fn.ntmps w H (W6 0 args) H {tmps:=vs++Array.replicate (fn.ntmps-vs.size) undef,defers:=[]} w:=by
  refine⟨by simp;omega,rfl,fun i=>?_,hs,D2U _ _,D2T _ _⟩;rw[A0F,if_pos (D1H _),Nat.sub_zero];cases z:args[i]? with
  |none=>exact .undef _
  |some d=>
   have I:=(D06.1 z).1;have:({tmps:=vs++Array.replicate (fn.ntmps-vs.size) undef,defers:=[]}:Act).eval (.tmp i)=vs.getD i undef:=by
    simp only[Act.eval];exact G3 (by omega)
   rw[this];exact G i d z
 have fin: ∀(x:AX) (E:Env) (H':Heap) (a:Act) (w':World),(x= .normal∨x= .ret)→St fn.ntmps w H E H' a w'→A8S P fn.results.toList Q x E H'→
   a.defers= []∧∃v,(results fn a.tmps).run P w'= .ok v w'∧∃A,Ending.returned v= .returned A∧Post H w Q A w':=by
  intro x E H' a w' hx g hq;have q: ∃r,A28 P fn.results.toList E H'=some r∧∃j m,Shift H' r j m∧Q m j:=by rcases hx with rfl|rfl<;>exact hq
  obtain⟨r,hr,j,m,u,J⟩:=q;obtain⟨v,hv,y⟩:=A2b (P:=P) g hr;obtain⟨L,M,O⟩:=u _ _ y g.sat;exact⟨g.defers,v,hv,v,rfl,m,j,L,M,g.ext,fun k hk hn=>O k (g.frm k hk hn),J⟩
 refine Go.wp_mono (A0E hm c _ _ _ _ _ p h hst) fun e a w' he=>?_;cases e with
 |normal=>obtain⟨E,H',g,hq⟩:=he;exact fin .normal E H' a w' (.inl rfl) g hq
 |ret=>obtain⟨E,H',g,hq⟩:=he;exact fin .ret E H' a w' (.inr rfl) g hq
 |exit id=>obtain⟨E,H',g,hq⟩:=he;exact hq.elim
 |_=>exact he.elim
theorem B2{f:Nat}(Z:List (Nat×Rc)){fn:Func}{c:Code}{args:List D}{H:Heap}{Q:D→Heap→Prop}(hm:P.follows .mixedOrders=true)(g:P.funcs[f]? =some fn)(hb:fn.body=some c)
  (h:wp P Z c (A8S P fn.results.toList Q) (W6 0 args) H) (d:A1y P f=true:=by kernel_rfl) (hn:args.length≤fn.ntmps:=by exact D0x (by kernel_rfl)) (e:O1 P Z fn.ntmps c=true:=by kernel_rfl):ACalls P f args H Q:=A8T Z hm g hb d hn e h
theorem ACalls.shift{f:Nat}{args args':List D}{H H':Heap}{Q:D→Heap→Prop}(hs: ∀w (vs:Array Value),args.length=vs.size→(∀(i:Nat) d,args[i]? =some d→R w H d (vs.getD i Go.undef))→Sat H w→
  args'.length=vs.size∧(∀(i:Nat) d,args'[i]? =some d→R w H' d (vs.getD i Go.undef))∧Sat H' w∧∀k,H.held k=false→H'.held k=false) (h:ACalls P f args' H' Q):ACalls P f args H Q:=by
 refine⟨h.1,fun w vs h1 m o=>?_⟩;obtain⟨p,q,r,j⟩:=hs w vs h1 m o;refine(h.2 w vs p q r).mono fun e w' ⟨v,he,d,u,x,y,g,z,A⟩=>⟨v,he,d,u,x,y,⟨g.os,g.tape,g.output,g.size,fun k hk hn=>g.block k hk (j k hn),g.shape⟩,fun k hk hn=>z k hk (j k hn),A⟩
theorem F0(H:Heap)(b:Nat):(H.del b).Le H:=fun k o h=>by
 unfold Heap.del at h;split at h
 ·cases h
 ·exact h
theorem A6D{w:World}{H:Heap}{b sz lo n:Nat}{es:List (List D)}{v:Value}(hr:R w H (.vec b sz lo n) v)(hs:Sat H w)(hb:H b=some (.vec sz es))(hn:lo+n≤es.length):
  R w (H.del b) (.sl sz ((es.drop lo).take n)) v:=by
 have p:=hs.lt hb;obtain⟨c,T,x,y,h1,G,I,o⟩:=A2X (hs b _ hb);cases hr with
 |vec0 b sz lo off=>rw[List.take_zero];exact .sl0 _ _ _
 |vec b sz lo n cap T m z A hsz q=>
 have hlen:((es.drop lo).take n).length=n:=by simp;omega
 have g: ∀(i:Nat) (e:List D),((es.drop lo).take n)[i]? =some e→i<n∧es[lo+i]? =some e:=fun i e he=>by
  have h:=(D06.1 he).1;rw[hlen]at h;rw[List.getElem?_take_of_lt h,List.getElem?_drop]at he;exact⟨h,he⟩
 have u:=R.sl (w:=w) (H:=H.del b) sz ((es.drop lo).take n) b (lo*sz) cap (fun i j=>c.getD ((lo+i)*sz+j) Go.undef) p (I1 (by simp[Heap.del]))
  (fun i e he=>o.each _ _ (g i e he).2) (by rw[hlen];exact q) (fun i j h J=>?_) (fun i e j d he r=>o.one _ _ _ _ (g i e he).2 r)
  (fun i e j d he r=>(o.rel _ _ _ _ (g i e he).2 r).less (F0 H b))
 ·rw[hlen]at u;exact u
 ·rw[hlen]at h;have e1:lo*sz+i*sz+j=(lo+i)*sz+j:=by rw[Nat.add_mul]
  rw[e1,U0 h1];have h5:(lo+i+1)*sz≤es.length*sz:=D1c _ (by omega);rw[Nat.add_mul (lo+i),Nat.one_mul]at h5;have L:=o.le;have C:(lo+i)*sz+j<c.size:=by omega
  simp[C]
inductive Fz(b sz:Nat)(es:List (List D)):D→D→Prop
 |same (d:D):Fz b sz es d d
 |nil (sz':Nat):Fz b sz es .nilsl (.sl sz' [])
 |vec (lo n:Nat) (h:lo+n≤es.length):Fz b sz es (.vec b sz lo n) (.sl sz ((es.drop lo).take n))
 |all:Fz b sz es (.vec b sz 0 es.length) (.sl sz es)
 |tuple (ds ds':List D) (hl:ds.length=ds'.length) (h: ∀(i:Nat) d d',ds[i]? =some d→ds'[i]? =some d'→Fz b sz es d d'):Fz b sz es (.tuple ds) (.tuple ds')
theorem Fz.R{w:World}{H:Heap}{b sz:Nat}{es:List (List D)}(hs:Sat H w)(hb:H b=some (.vec sz es)){d d':D}(h:Fz b sz es d d'): ∀{v:Value},R w H d v→R w (H.del b) d' v:=by
 induction h with
 |same d=>exact fun hr=>hr.less (F0 H b)
 |nil sz'=>intro v hr;cases hr;exact .sl0 _ _ _
 |vec lo n h=>exact fun hr=>A6D hr hs hb h
 |all=>intro v hr;have:=A6D hr hs hb (by omega);rwa [List.drop_zero,List.take_length]at this
 |tuple ds ds' hl h m=>
  intro v hr;obtain⟨vs,rfl,o,g⟩:=hr.tuple_inv;refine .tuple _ _ (by omega) fun i d' e=>?_;have p:=(D06.1 e).1;have j:ds[i]? =some (ds[i]'(by omega)):=D1D _;exact m i _ _ j e (g i _ j)
theorem Fz.one{b sz:Nat}{es:List (List D)}{d d':D}(h:Fz b sz es d d')(h1:d.one=true):d'.one=true:=by
 cases h with
 |same=>exact h1
 |nil=>rfl
 |vec=>rfl
 |all=>rfl
 |tuple=>cases h1
inductive OFz(b sz:Nat)(es:List (List D)):Obj→Obj→Prop
 |same (o:Obj):OFz b sz es o o
 |box (cs cs':List D) (Z:Option TypeId) (hl:cs.length=cs'.length) (h: ∀(i:Nat) d d',cs[i]? =some d→cs'[i]? =some d'→Fz b sz es d d'):OFz b sz es (.box cs Z) (.box cs' Z)
 |vec (s:Nat) (xs xs':List (List D)) (hl:xs.length=xs'.length) (h: ∀(i:Nat) x x',xs[i]? =some x→xs'[i]? =some x'→x.length=x'.length∧∀(j:Nat) d d',x[j]? =some d→x'[j]? =some d'→Fz b sz es d d'):OFz b sz es (.vec s xs) (.vec s xs')
theorem A18{E A:Env}{H H':Heap}{b sz:Nat}{es:List (List D)}(hb:H b=some (.vec sz es))(hE: ∀p∈A,Fz b sz es (E.get p.1) p.2)
  (C: ∀k o',H' k=some o'→k≠b∧∃o,H k=some o∧OFz b sz es o o'):A1A A H' E H:=by
 intro N w0 Hz a w hst;have hs:=hst.sat;have e: ∀k,H.held k=false→H'.held k=false:=fun k hk=>by
  cases ho:H' k with
  |none=>exact I1 ho
  |some o'=>
   obtain⟨_,o,h1,G⟩:=C k o' ho;rw[J5 h1]at hk;rw[J5 ho];cases G<;>exact hk
 have I: ∀{d d':D} {v:Value},Fz b sz es d d'→R w H d v→R w H' d' v:=fun u hr=>(u.R hs hb hr).mono (D2U _ _) fun k _ hk=>by
  by_cases x:k=b
  ·subst x;cases ho:H' k with
   |none=>exact I1 ho
   |some o'=>exact absurd rfl (C k o' ho).1
  ·refine e k ?_;rw[←A0Z (H:=H) (H':=H.del b) (k:=k) (by unfold Heap.del;rw[if_neg x])];exact hk
 refine⟨hst.size,hst.defers,fun i=>?_,fun k o' ho=>?_,hst.ext,fun k hk hn=>e k (hst.frm k hk hn)⟩
 ·have key: ∀(L:Env),(∀p∈L,Fz b sz es (E.get p.1) p.2)→R w H' (L.get i) (a.eval (.tmp i)):=by
   intro L
   induction L with
   |nil=>intro _;exact .undef _
   |cons p L ih=>
    intro W;obtain⟨j,d⟩:=p;simp only[Env.get];by_cases y:j=i
    ·subst y;rw[if_pos rfl];exact I (W (j,d) (by simp)) (hst.env j)
    ·rw[if_neg y];exact ih (fun p hp=>W p (by simp[hp]))
  exact key A hE
 ·obtain⟨_,o,h1,G⟩:=C k o' ho;have q:=hs k o h1;cases G with
  |same=>exact q.mono (D2U H w) (fun k _ hk=>e k hk) rfl
  |box cs cs' Z hl u=>
   obtain⟨c,T,lo,J,M,O,X,z,U⟩:=q;refine⟨c,T,lo,J,M,O,by omega,fun j d' g=>?_,U⟩;have y:=(D06.1 g).1;have r:cs[j]? =some (cs[j]'(by omega)):=D1D _;have m:=u j _ _ r g;exact⟨m.one (z j _ r).1,I m (z j _ r).2⟩
  |vec s xs xs' hl u=>
   obtain⟨c,T,lo,J,M,O,X,z,U,Y⟩:=q;refine⟨c,T,lo,J,M,O,X,by rw[←hl];exact z,fun i x' h=>?_,fun i x' j d' h g=>?_⟩
   ·have V:=(D06.1 h).1;have hx:xs[i]? =some (xs[i]'(by omega)):=D1D _;rw[←(u i _ _ hx h).1];exact U i _ hx
   ·have V:=(D06.1 h).1;have hx:xs[i]? =some (xs[i]'(by omega)):=D1D _;obtain⟨hlen,m⟩:=u i _ _ hx h;have y:=(D06.1 g).1;have r:(xs[i]'(by omega))[j]? =some ((xs[i]'(by omega))[j]'(by omega)):=D1D _;have hz:=m j _ _ r g;exact⟨hz.one (Y i _ j _ hx r).1,I hz (Y i _ j _ hx r).2⟩
theorem Shift.freeze{H:Heap}{b sz:Nat}{es:List (List D)}(hb:H b=some (.vec sz es)){d d':D}(h:Fz b sz es d d'):Shift H d (H.del b) d':=fun w v hr hs=>
 ⟨h.R hs hb hr,hs.less (F0 H b),fun _ hn=>(F0 H b).held hn⟩
theorem ACalls.freeze{f:Nat}{args args':List D}{H:Heap}{Q:D→Heap→Prop}{b sz:Nat}{es:List (List D)}(hb:H b=some (.vec sz es))(hl:args.length=args'.length)(m: ∀(i:Nat) d d',args[i]? =some d→args'[i]? =some d'→Fz b sz es d d')
  (h:ACalls P f args' (H.del b) Q):ACalls P f args H Q:=
 h.shift fun w vs h1 o g=>⟨by omega,fun i d' e=>by
  have p:=(D06.1 e).1;have j:args[i]? =some (args[i]'(by omega)):=D1D _;exact(m i _ _ j e).R g hb (o i _ j),g.less (F0 H b),fun _ hn=>(F0 H b).held hn⟩
theorem R.nil_sl{w:World}{H:Heap}{v:Value}(sz:Nat)(h:R w H .nilsl v):R w H (.sl sz []) v:=by cases h;exact .sl0 _ _ _
theorem B1Y{f:Nat}{H:Heap}{Q:D→Heap→Prop}(sz:Nat)(h:ACalls P f [.sl sz []] H Q):ACalls P f [.nilsl] H Q:=
 ACalls.shift (args':=[.sl sz []]) (fun w vs h1 g j=>⟨h1,fun i d e=>by
  match i,e with
  |0,e=>simp at e;subst e;exact(g 0 _ rfl).nil_sl sz
  |i+1,e=>simp at e,j,fun _ hn=>hn⟩) h
theorem A0n{f:Nat}{a:D}{H:Heap}{Q:D→Heap→Prop}(sz:Nat)(h:ACalls P f [a,.sl sz []] H Q):ACalls P f [a,.nilsl] H Q:=
 ACalls.shift (args':=[a,.sl sz []]) (fun w vs h1 g j=>⟨h1,fun i d e=>by
  match i,e with
  |0,e=>simp at e;subst e;exact g 0 _ rfl
  |1,e=>simp at e;subst e;exact(g 1 _ rfl).nil_sl sz
  |i+2,e=>simp at e,j,fun _ hn=>hn⟩) h
end
def B(s:ByteArray):List UInt8:=s.data.toList
@[simp] theorem U7(s:ByteArray):(B s).length=s.size:=by simp[B]
theorem Y5{s t:ByteArray}(h:B s=B t):s=t:=by
 apply ByteArray.ext;unfold B at h;exact Array.toList_inj.1 h
def S(l:List UInt8):ByteArray:=⟨l.toArray⟩
@[go_sem] theorem y5(l:List UInt8):B (S l)=l:=by simp[B,S]
theorem S_B(s:ByteArray):S (B s)=s:=Y5 (y5 _)
@[go_sem] theorem P3(l:List UInt8):(S l).size=l.length:=by rw[←U7,y5]
theorem C55{l m:List UInt8}(h:S l=S m):l=m:=by rw[←y5 l,h,y5]
@[go_sem] theorem D0f(l:List UInt8):B (ByteArray.mk l.toArray)=l:=y5 l
@[go_sem] theorem A0G(x y:ByteArray):B (x++y)=B x++B y:=by simp[B,ByteArray.data_append]
attribute [go_sem] U7
theorem A4T(s:ByteArray)(l h:Nat):s.extract l h=S (((B s).take h).drop l):=by
 apply Y5;rw[y5];simp[B,ByteArray.data_extract,List.extract_eq_take_drop];rw[List.drop_take]
theorem A0e(l:List UInt8):B ⟨l.toArray⟩=l:=by simp[B]
def B9D(P:Program)(Z:List (Nat×Rc))(b:Code)(Q:AX→Env→Heap→Prop):AX→Env→Heap→Prop
 | .normal,E,H=>wp P Z b Q E H
 | .exit i,E,H=>Q (.exit i) E H
 | .ret,E,H=>Q .ret E H
def A8U(id:Nat)(Q:AX→Env→Heap→Prop):AX→Env→Heap→Prop
 | .normal,E,H=>Q .normal E H
 | .exit i,E,H=>if i=id then Q .normal E H else Q (.exit i) E H
 | .ret,E,H=>Q .ret E H
def A6E(Q:AX→Env→Heap→Prop)(K:Env→Heap→Prop):AX→Env→Heap→Prop
 | .normal,E,H=>K E H
 | .exit i,E,H=>Q (.exit i) E H
 | .ret,E,H=>Q .ret E H
def B21(Q:AX→Env→Heap→Prop):Env→Heap→Prop:=fun E H=>Q .normal E H
def B5s(P:Program)(Z:List (Nat×Rc))(c:Code)(Q:AX→Env→Heap→Prop)(E:Env)(H:Heap):Prop:=B20 (fun K=>wp P Z c (A6E Q K)) E H
def opK(P:Program)(gs:List (Option Nat))(K:Env→Heap→Prop)(l:List Oper)(dst:Option Nat)(E:Env):D→Heap→Prop:=fun d H=>wpOps P gs K l (E.put dst d) H
def S4(o:Option D)(K:D→Heap→Prop)(H:Heap):Prop:=∃d,o=some d∧K d H
def B0B(o:Option Heap)(K:D→Heap→Prop):Prop:=∃H',o=some H'∧K .undef H'
def B0C(P:Program)(Z:List (Nat×Rc))(c:Operand)(d:D)(x y:Code)(Q:AX→Env→Heap→Prop)(E:Env)(H:Heap):Prop:=∃b,d= .bool b∧(b=true→wp P Z x Q (E.fix c true) H)∧(b=false→wp P Z y Q (E.fix c false) H)
def A0u(P:Program)(gs:List (Option Nat))(K:Env→Heap→Prop)(l:List Oper)(dst:Option Nat)(op:Op)(s:Nat)(d:D)(want:Bool)(E:Env)(H:Heap):Prop:=
 (d= .tuple []∧wpOps P gs K l (E.put dst (.tuple [])) H)∨
 ∃b,d= .bool b∧(b=want→D3 P (Env.ev ((s,.bool want)::E)) H (opK P gs K l dst ((s,.bool want)::E)) op)∧(b= !want→wpOps P gs K l (Env.put ((s,.bool (!want))::E) dst (.tuple [])) H)
def B1w(P:Program)(gs:List (Option Nat))(K:Env→Heap→Prop)(l:List Oper)(dst:Option Nat)(op:Op)(s:Option Nat)(want:Bool)(E:Env)(H:Heap):Prop:=match s with
 |none=>wpOps P gs K l (E.put dst (.tuple [])) H
 |some s=>A0u P gs K l dst op s (E.get s) want E H
def B5t(P:Program)(f:D)(args:List D)(H:Heap)(K:D→Heap→Prop):Prop:=match f with
 | .fn (.func g) first captured=>ACalls P g (first++args++captured) H K
 |_=>False
def Fin(Q:D→Heap→Prop)(d:D)(H:Heap):Prop:=∃H' d',Shift H d H' d'∧Q d' H'
def B9E(o:Option D)(Q:D→Heap→Prop)(H:Heap):Prop:=∃r,o=some r∧Fin Q r H
theorem Fin.less{Q:D→Heap→Prop}{d:D}{H H':Heap}(hl:H'.Le H)(h:Q d H'):Fin Q d H:=⟨H',d,.less hl d,h⟩
theorem D2O:type_of% @Fin.less:=@Fin.less
theorem Fin.same{Q:D→Heap→Prop}{d:D}{H:Heap}(h:Q d H):Fin Q d H:=⟨H,d,.less (D2N H) d,h⟩
theorem D2R:type_of% @Fin.same:=@Fin.same
theorem Fin.freeze{Q:D→Heap→Prop}{d d':D}{H:Heap}{b sz:Nat}{es:List (List D)}(hb:H b=some (.vec sz es))(g:Fz b sz es d d')(h:Fin Q d' (H.del b)):Fin Q d H:=
 let ⟨H',e,h1,h2⟩:=h;⟨H',e,(Shift.freeze hb g).trans h1,h2⟩
theorem Fin.then{Q:D→Heap→Prop}{d:D}{H H':Heap}(hl:H'.Le H)(h:Fin Q d H'):Fin Q d H:=
 let ⟨H1,e,h1,h2⟩:=h;⟨H1,e,(Shift.less hl d).trans h1,h2⟩
theorem B2p{Q:D→Heap→Prop}{ds:List D}{H:Heap}{b sz n:Nat}{es:List (List D)}(hb:H b=some (.vec sz es))(hn:n=es.length)(h:Fin Q (.tuple (.sl sz es::ds)) (H.del b)):Fin Q (.tuple (.vec b sz 0 n::ds)) H:=by
 subst hn;refine Fin.freeze hb (.tuple _ _ (by simp) fun i d d' h1 e=>?_) h;cases i with
 |zero=>simp at h1 e;subst h1;subst e;exact .all
 |succ i=>simp at h1 e;rw[h1]at e;cases e;exact .same _
theorem Fin.nilsl{Q:D→Heap→Prop}{H:Heap}(sz:Nat)(ds:List D)(h:Fin Q (.tuple (.sl sz []::ds)) H):Fin Q (.tuple (.nilsl::ds)) H:=
 let ⟨H1,e,h1,h2⟩:=h;⟨H1,e,Shift.trans (fun w v hr hs=>⟨by
  obtain⟨vs,rfl,hl,g⟩:=hr.tuple_inv;refine .tuple _ _ (by simpa using hl) fun i d j=>?_;cases i with
  |zero=>simp at j;subst j;have:=g 0 _ rfl;generalize vs.getD 0 Go.undef=u at this;cases this;exact .sl0 _ _ _
  |succ i=>exact g (i+1) d (by simpa using j),hs,fun _ hn=>hn⟩) h1,h2⟩
theorem B0D{P:Program}{t:Nat}{k:IntKind}(h:P.underlying t=some (.int k)):C9 P t= .int:=by unfold C9;rw[h]
section
variable {P:Program} {Z:List (Nat×Rc)} {Q:AX→Env→Heap→Prop} {E:Env} {H:Heap} {K:Env→Heap→Prop} {gs:List (Option Nat)} {l:List Oper} {KD:D→Heap→Prop} {ev:Operand→D} {bl:List Nat}
@[go_sem] theorem C7e:wp P Z .skip Q E H=Q .normal E H:=rfl
def A41(P:Program)(gs:List (Option Nat))(ops:List Oper)(K:Env→Heap→Prop)(E:Env)(H:Heap):Option Rc→Prop
 |none=>wpOps P gs K ops E H
 |some (.rd sx)=>∃bl,(∀k∈bl,H k≠none)∧A8R P sx bl K ops E H
 |some .par=>∃(cs:Nat→CR) (bs:Nat→Bl),B4O bs 0 ops∧wpP P gs cs bs K 0 ops E H
 |some (.ord perm)=>∃bl:List Nat,wpG P bl K (perm.map (A17 ops)) E H
 |some .rg=>∃bl,(∀k∈bl,H k≠none)∧Z2 P bl gs K ops E H
 |some .wk=>∃E0 H0,A1A E0 H0 E H∧wpOps P gs K ops E0 H0
@[go_sem] theorem C40(id:Nat)(l:List Oper)(d:Bool):wp P Z (.region id l.toArray d) Q E H=A41 P (l.map (·.dst)) l (B21 Q) E H (A0t id Z):=by
 show (match A0t id Z with|none=>_|some (.rd sx)=>_|some .par=>_|some (.ord perm)=>_|some .rg=>_|some .wk=>_)=_;unfold A41;cases A0t id Z with
 |none=>rfl
 |some r=>cases r<;>rfl
@[go_sem] theorem C2s(id:Nat):A0t id []=none:=rfl
@[go_sem] theorem C1e(id i:Nat)(sx:Rc)(Z:List (Nat×Rc)):A0t id ((i,sx)::Z)=if id=i then some sx else A0t id Z:=rfl
@[go_sem] theorem C2t(d:List (Option Nat))(ops:List Oper):A41 P d ops K E H none=wpOps P d K ops E H:=rfl
theorem F4{d:List (Option Nat)}{ops:List Oper}(cs:Nat→D)(bl:List Nat)(h:wpP P d (fun i=>.c (cs i)) (fun _=>⟨bl,[],[]⟩) K 0 ops E H):A41 P d ops K E H (some .par):=⟨_,_,A26 bl _ _,h⟩
theorem A3e{d:List (Option Nat)}{ops:List Oper}(cs:Nat→CR)(bl:List Nat)(h:wpP P d cs (fun _=>⟨bl,[],[]⟩) K 0 ops E H):A41 P d ops K E H (some .par):=⟨cs,_,A26 bl _ _,h⟩
theorem C2u{d:List (Option Nat)}{ops:List Oper}{perm:List Nat}(bl:List Nat)(h:wpG P bl K (perm.map (A17 ops)) E H):A41 P d ops K E H (some (.ord perm)):=⟨bl,h⟩
def gK(P:Program)(bl:List Nat)(K:Env→Heap→Prop)(l:List (Option Oper))(dst:Option Nat)(E:Env)(H:Heap):D→Heap→Prop:=fun d H'=>(∀k∈bl,H' k=H k)∧wpG P bl K l (E.put dst d) H'
@[go_sem] theorem C8Y(bl:List Nat)(K:Env→Heap→Prop)(l:List (Option Oper))(dst:Option Nat)(E:Env)(H H':Heap)(d:D):gK P bl K l dst E H d H'=((∀k∈bl,H' k=H k)∧wpG P bl K l (E.put dst d) H'):=rfl
@[go_sem] theorem C9u(bl:List Nat):wpG P bl K [] E H=K E H:=rfl
@[go_sem] theorem C8Z(bl:List Nat)(l:List (Option Oper))(dst:Option Nat)(t:Nat)(x:Operand)(ty:Nat)(pos:String)(after:Array Edge)(d:Option (Nat×Bool)):
  wpG P bl K (some ⟨dst,.load t x,ty,pos,after,d⟩::l) E H=((∀b∈rdB (E.ev x),b∈bl)∧D3 P E.ev H (gK P bl K l dst E H) (.load t x)):=by
 show ((J0 P (.load t x)= .load→_)∧_)=_;simp only[J0,true_implies,B5o];rfl
def B22:Op→Bool
 | .load .. =>false
 |_=>true
theorem B5u{op:Op}(h:J0 P op= .load):B22 op=false:=by
 cases op
 case load=>rfl
 case convert s t x=>simp only[J0]at h;split at h<;>cases h
 case call cc=>
  obtain⟨c,d,e⟩:=cc;cases c with
  |builtin b=>
   cases b<;>simp only[J0]at h<;>first|cases h|(split at h<;>cases h)
  |_=>simp[J0]at h
 all_goals (simp[J0]at h)
theorem C8a(bl:List Nat)(l:List (Option Oper))(dst:Option Nat)(op:Op)(ty:Nat)(pos:String)(after:Array Edge)(d:Option (Nat×Bool))(h:B22 op=true):
  wpG P bl K (some ⟨dst,op,ty,pos,after,d⟩::l) E H=D3 P E.ev H (gK P bl K l dst E H) op:=by
 have hc:J0 P op≠ .load:=fun g=>by rw[B5u g]at h;cases h
 show ((J0 P op= .load→_)∧_)=_;simp only[hc,false_implies,true_and];rfl
@[go_sem] theorem C7f(t:Nat)(a x:Operand)(bl:List Nat)(l:List (Option Oper))(dst:Option Nat)(ty:Nat)(pos:String)(after:Array Edge)(d:Option (Nat×Bool)):wpG P bl K (some ⟨dst,.store t a x,ty,pos,after,d⟩::l) E H=D3 P E.ev H (gK P bl K l dst E H) (.store t a x):=C8a _ _ _ _ _ _ _ _ rfl
@[go_sem] theorem C41(o:Oper)(l:List Oper):A17 (o::l) 0=some o:=rfl
@[go_sem] theorem C42(o:Oper)(l:List Oper)(i:Nat):A17 (o::l) (i+1)=A17 l i:=rfl
@[go_sem] theorem C8b(a b:Code):wp P Z (.seq a b) Q E H=wp P Z a (B9D P Z b Q) E H:=by
 show wp P Z a _ E H=wp P Z a _ E H
 congr 1;funext x;cases x<;>rfl
@[go_sem] theorem C7g(c:Operand)(x y:Code):wp P Z (.cond c x y) Q E H=B0C P Z c (E.ev c) x y Q E H:=rfl
@[go_sem] theorem C56(id:Nat)(c:Code):wp P Z (.block id c) Q E H=wp P Z c (A8U id Q) E H:=by
 show wp P Z c _ E H=wp P Z c _ E H
 congr 1;funext x;cases x<;>rfl
@[go_sem] theorem C7h(c:Code):wp P Z (.loop c) Q E H=B5s P Z c Q E H:=by
 show B20 _ E H=B20 _ E H
 congr 1;funext K;congr 1;funext x;cases x<;>rfl
@[go_sem] theorem C7i(id:Nat):wp P Z (.exit id) Q E H=Q (.exit id) E H:=rfl
@[go_sem] theorem C8c:wp P Z .ret Q E H=Q .ret E H:=rfl
@[go_sem] theorem C57(c:Code):wp P Z (.scope c) Q E H=wp P Z c Q E H:=rfl
@[go_sem] theorem C58(l:Nat):wp P Z (.label l) Q E H=Q .normal E H:=rfl
@[go_sem] theorem C1f(b:Code):B9D P Z b Q .normal E H=wp P Z b Q E H:=rfl
@[go_sem] theorem C43(b:Code)(i:Nat):B9D P Z b Q (.exit i) E H=Q (.exit i) E H:=rfl
@[go_sem] theorem C59(b:Code):B9D P Z b Q .ret E H=Q .ret E H:=rfl
@[go_sem] theorem B8j(i:Nat):A8U i Q .normal E H=Q .normal E H:=rfl
@[go_sem] theorem C1g(i j:Nat):A8U i Q (.exit j) E H=if j=i then Q .normal E H else Q (.exit j) E H:=rfl
@[go_sem] theorem C2v(i:Nat):A8U i Q .ret E H=Q .ret E H:=rfl
@[go_sem] theorem B9F:A6E Q K .normal E H=K E H:=rfl
@[go_sem] theorem C2w(j:Nat):A6E Q K (.exit j) E H=Q (.exit j) E H:=rfl
@[go_sem] theorem C44:A6E Q K .ret E H=Q .ret E H:=rfl
@[go_sem] theorem C1h:B21 Q E H=Q .normal E H:=rfl
theorem A29(c:Operand)(b:Bool)(x y:Code):B0C P Z c (.bool b) x y Q E H=((b=true→wp P Z x Q (E.fix c true) H)∧(b=false→wp P Z y Q (E.fix c false) H)):=by
 unfold B0C;simp only[D.bool.injEq,exists_eq_left']
attribute [go_sem low] A29
@[go_sem high] theorem C2x(c:Operand)(x y:Code):B0C P Z c (.bool true) x y Q E H=wp P Z x Q (E.fix c true) H:=by rw[A29];simp
@[go_sem high] theorem C1i(c:Operand)(x y:Code):B0C P Z c (.bool false) x y Q E H=wp P Z y Q (E.fix c false) H:=by rw[A29];simp
@[go_sem] theorem C7j(t:Nat)(b:Bool):Env.fix E (.tmp t) b=(t,.bool b)::E:=rfl
@[go_sem] theorem C7k:wpOps P gs K [] E H=K E H:=rfl
@[go_sem] theorem C6A(dst:Option Nat)(op:Op)(ty:Nat)(pos:String)(after:Array Edge):wpOps P gs K (⟨dst,op,ty,pos,after,none⟩::l) E H=D3 P (Env.ev E) H (opK P gs K l dst E) op:=rfl
@[go_sem] theorem C45(dst:Option Nat)(op:Op)(ty:Nat)(pos:String)(after:Array Edge)(j:Nat)(d:Bool):
  wpOps P gs K (⟨dst,op,ty,pos,after,some (j,d)⟩::l) E H=B1w P gs K l dst op (I2 gs j) d E H:=by
 rw[wpOps];simp only[];unfold A14 B1w;cases I2 gs j<;>rfl
@[go_sem] theorem B5v(g:Option Nat)(d:List (Option Nat)):I2 (g::d) 0=g:=rfl
@[go_sem] theorem B5w(g:Option Nat)(d:List (Option Nat))(j:Nat):I2 (g::d) (j+1)=I2 d j:=by simp[I2]
@[go_sem] theorem C1j(dst:Option Nat)(op:Op)(s:Nat)(d:Bool):B1w P gs K l dst op (some s) d E H=A0u P gs K l dst op s (E.get s) d E H:=rfl
theorem l5(dst:Option Nat)(op:Op)(s:Nat)(b d:Bool):A0u P gs K l dst op s (.bool b) d E H=
  ((b=d→D3 P (Env.ev ((s,.bool d)::E)) H (opK P gs K l dst ((s,.bool d)::E)) op)∧(b= !d→wpOps P gs K l (Env.put ((s,.bool (!d))::E) dst (.tuple [])) H)):=by
 unfold A0u;simp only[D.bool.injEq,exists_eq_left',reduceCtorEq,false_and,false_or]
attribute [go_sem low] l5
@[go_sem high] theorem C1k(dst:Option Nat)(op:Op)(s:Nat)(d:Bool):A0u P gs K l dst op s (.tuple []) d E H=wpOps P gs K l (E.put dst (.tuple [])) H:=by
 unfold A0u;simp
@[go_sem high] theorem C46(dst:Option Nat)(op:Op)(s:Nat):A0u P gs K l dst op s (.bool true) true E H=D3 P (Env.ev ((s,.bool true)::E)) H (opK P gs K l dst ((s,.bool true)::E)) op:=by rw[l5];simp
@[go_sem high] theorem C47(dst:Option Nat)(op:Op)(s:Nat):A0u P gs K l dst op s (.bool false) false E H=D3 P (Env.ev ((s,.bool false)::E)) H (opK P gs K l dst ((s,.bool false)::E)) op:=by rw[l5];simp
@[go_sem high] theorem C48(dst:Option Nat)(op:Op)(s:Nat):A0u P gs K l dst op s (.bool true) false E H=wpOps P gs K l (Env.put ((s,.bool true)::E) dst (.tuple [])) H:=by rw[l5];simp
@[go_sem high] theorem C49(dst:Option Nat)(op:Op)(s:Nat):A0u P gs K l dst op s (.bool false) true E H=wpOps P gs K l (Env.put ((s,.bool false)::E) dst (.tuple [])) H:=by rw[l5];simp
@[go_sem] theorem C7l(dst:Option Nat)(d:D):opK P gs K l dst E d H=wpOps P gs K l (Env.put E dst d) H:=rfl
def C6B(P:Program)(bl:List Nat)(gs:List (Option Nat))(K:Env→Heap→Prop)(l:List Oper)(dst:Option Nat)(E:Env):D→Heap→Prop:=fun d H=>Z2 P bl gs K l (E.put dst d) H
def B5x(P:Program)(bl:List Nat)(gs:List (Option Nat))(K:Env→Heap→Prop)(l:List Oper)(dst:Option Nat)(op:Op)(s:Nat)(d:D)(want:Bool)(E:Env)(H:Heap):Prop:=
 (d= .tuple []∧Z2 P bl gs K l (E.put dst (.tuple [])) H)∨
 ∃b,d= .bool b∧(b=want→A5y P bl (Env.ev ((s,.bool want)::E)) H (C6B P bl gs K l dst ((s,.bool want)::E)) op)∧(b= !want→Z2 P bl gs K l (Env.put ((s,.bool (!want))::E) dst (.tuple [])) H)
theorem B0E(dst:Option Nat)(op:Op)(s:Nat)(b d:Bool):B5x P bl gs K l dst op s (.bool b) d E H=
  ((b=d→A5y P bl (Env.ev ((s,.bool d)::E)) H (C6B P bl gs K l dst ((s,.bool d)::E)) op)∧(b= !d→Z2 P bl gs K l (Env.put ((s,.bool (!d))::E) dst (.tuple [])) H)):=by
 unfold B5x;apply propext;constructor
 ·rintro(⟨h,_⟩|⟨e,h,h1⟩)
  ·cases h
  ·cases h;exact h1
 ·exact fun h=>.inr ⟨b,rfl,h⟩
attribute [go_sem low] B0E
def roH(H:Heap):Heap:=fun k=>match H k with
 |some (.ro cs)=>some (.ro cs)
 |_=>none
theorem A8V{H:Heap}{k:Nat}{cs:List D}(h:H k=some (.ro cs)):roH H k=some (.ro cs):=by unfold roH;rw[h]
theorem A8W(H:Heap):(roH H).Le H:=fun k o h=>by
 unfold roH at h;split at h
 ·rename_i cs e;cases h;exact e
 ·cases h
theorem A3f(H:Heap)(k:Nat):(roH H).held k=false:=by
 cases h:roH H k with
 |none=>exact I1 h
 |some o=>
  have d:=h;unfold roH at d;split at d
  ·cases d;rw[J5 h];rfl
  ·cases d
theorem C2y(H:Heap):H.sub (roH H)=H:=by
 funext k;unfold Heap.sub;rw[A3f];simp
def C8d(H:Heap)(b:Nat):Heap:=fun k=>if k=b then H k else roH H k
theorem B9G(H:Heap)(b:Nat):C8d H b b=H b:=if_pos rfl
@[go_sem] theorem A4U(d:D):S4 (some d) KD H=KD d H:=by simp[S4]
@[go_sem] theorem C6C(c:Prop) [Decidable c] (a:Option D):S4 (if c then a else none) KD H=(c∧S4 a KD H):=by
 by_cases h:c<;>simp[h,S4]
@[go_sem] theorem C5A(H':Heap):B0B (some H') KD=KD .undef H':=by simp[B0B]
@[go_sem] theorem C6D(c:Prop) [Decidable c] (a:Option Heap):B0B (if c then a else none) KD=(c∧B0B a KD):=by
 by_cases h:c<;>simp[h,B0B]
def tt:D→Heap→Prop:=fun _ _=>True
variable {sx:Bool} {bl:List Nat}
@[go_sem] theorem C7m(i j:Nat)(d:D)(E:Env):Env.get ((i,d)::E) j=if i=j then d else Env.get E j:=rfl
@[go_sem] theorem C7n(i:Nat)(d:D):Env.put E (some i) d=(i,d)::E:=rfl
@[go_sem] theorem B9H(d:D):Env.put E none d=E:=rfl
@[go_sem] theorem C8e(t:Nat):Env.ev E (.tmp t)=Env.get E t:=rfl
@[go_sem] theorem C8f(k:IntKind)(n:Int):Env.ev E (.const (.int k n))= .int k n:=rfl
@[go_sem] theorem C7o(b:Bool):Env.ev E (.const (.bool b))= .bool b:=rfl
@[go_sem] theorem C8g(s:ByteArray):Env.ev E (.const (.string s))= .str s:=rfl
@[go_sem] theorem C6E:Env.ev E (.const (.slice none 0 0))= .nilsl:=rfl
@[go_sem] theorem C5B:Env.ev E (.const (.map none))= .nilmap:=rfl
@[go_sem] theorem C6F:Env.ev E (.const .nilIface)= .nilif:=rfl
@[go_sem] theorem C7p(f:Nat):Env.ev E (.func f)= .fn (.func f) [] []:=rfl
@[go_sem] theorem C8h(x:Operand):D3 P ev H KD (.move x)=KD (ev x) H:=A4U _
@[go_sem] theorem C6G(x:Operand):D3 P ev H KD (.assign x)=KD (ev x) H:=A4U _
def B23:D→D→D→Option D
 | .bool t,a,b=>some (if t then a else b)
 |_,_,_=>none
@[go_sem high] theorem C5C(a b:D):B23 (.bool true) a b=some a:=rfl
@[go_sem high] theorem C2z(a b:D):B23 (.bool false) a b=some b:=rfl
@[go_sem] theorem C8i(c a b:Operand):D3 P ev H KD (.pick c a b)=S4 (B23 (ev c) (ev a) (ev b)) KD H:=by
 show S4 _ KD H=_;simp only[L5,B23]
 congr 1
 cases ev c<;>rfl
def A8X:D→Option D
 | .box b off=>some (.box b off)
 | .el b sz i off=>some (.el b sz i off)
 | .ro cs=>some (.ro cs)
 | .fn (.func f) a b=>some (.fn (.func f) a b)
 |_=>none
@[go_sem] theorem C5D(b off:Nat):A8X (.box b off)=some (.box b off):=rfl
@[go_sem] theorem C6H(b sz i off:Nat):A8X (.el b sz i off)=some (.el b sz i off):=rfl
@[go_sem] theorem C7q(x:Operand):D3 P ev H KD (.nilCheck x)=S4 (A8X (ev x)) KD H:=by
 show S4 _ KD H=_;simp only[L5,A8X];generalize ev x=d;cases d<;>rfl
@[go_sem] theorem C9v(op:BinOp)(t:Nat)(x y:Operand)(d:Nat):D3 P ev H KD (.binOp op t x y d)=S4 (A1x P op t (L2 x||L2 y) (ev x) (ev y)) KD H:=rfl
@[go_sem] theorem D0g(op:UnOp)(t:Nat)(x:Operand):D3 P ev H KD (.unOp op t x)=S4 (unD op (ev x)) KD H:=rfl
@[go_sem] theorem C7r(t:Nat)(x:Operand)(f:Nat):D3 P ev H KD (.fieldAddr t x f)=S4 (Y8 P t (ev x) f) KD H:=rfl
@[go_sem] theorem C7s(t:Nat)(x i:Operand):D3 P ev H KD (.indexAddr t x i)=S4 (Q8 P t (ev x) (ev i)) KD H:=rfl
@[go_sem] theorem C7t(t:Nat)(x i:Operand):D3 P ev H KD (.index t x i)=S4 (A5t P t (ev x) (ev i)) KD H:=rfl
@[go_sem] theorem C7u(t:Nat)(x:Operand)(lo d:Option Operand):D3 P ev H KD (.slice t x lo d none)=S4 (U3 P t (ev x) (lo.map ev) (d.map ev)) KD H:=rfl
def A6F:D→Nat→Option D
 | .tuple ds,i=>ds[i]?
 |_,_=>none
@[go_sem] theorem B8k(ds:List D)(i:Nat):A6F (.tuple ds) i=ds[i]? :=rfl
@[go_sem] theorem C5E(x:Operand)(i:Nat):D3 P ev H KD (.extract x i)=S4 (A6F (ev x) i) KD H:=by
 show S4 _ KD H=_;simp only[L5,A6F]
 congr 1
 cases ev x<;>rfl
@[go_sem] theorem C8j(t:Nat)(x:Operand):D3 P ev H KD (.load t x)=S4 (A0B P t (ev x) H) KD H:=rfl
@[go_sem] theorem C7v(t:Nat)(a x:Operand):D3 P ev H KD (.store t a x)=B0B (Z0 P t (ev a) (ev x) H) KD:=rfl
def B1x(z:Option (List D))(Z:Option TypeId)(H:Heap)(KD:D→Heap→Prop):Prop:=∃c,z=some c∧∀b,H b=none→KD (.box b 0) (H.set b (.box c Z))
@[go_sem] theorem C7w(t:Nat):D3 P ev H KD (.alloc t)=B1x (G2 P t) (A1t P t) H KD:=rfl
@[go_sem] theorem C1l(c:List D)(Z:Option TypeId):B1x (some c) Z H KD= ∀b,H b=none→KD (.box b 0) (H.set b (.box c Z)):=by simp[B1x]
@[go_sem] theorem C9w(t:Nat)(x:Operand):D3 P ev H KD (.box t x)=((ev x).cells.all D.one=true∧∀b,H b=none→KD (.box b 0) (H.set b (.box (ev x).cells))):=rfl
@[go_sem] theorem C8k(f:Operand)(args:List Operand)(d:Array Nat):D3 P ev H KD (.call ⟨.value f,args.toArray,d⟩)=B5t P (ev f) (args.map ev) H KD:=by
 show (match ev f with| .fn (.func g) first captured=>ACalls P g (first++args.toArray.toList.map ev++captured) H KD|_=>False)=_;unfold B5t;rfl
@[go_sem] theorem C6I(g:Nat)(fs d cs:List D):B5t P (.fn (.func g) fs cs) d H KD=ACalls P g (fs++d++cs) H KD:=rfl
def C6J:Option Obj→Option (List (D×D))
 |some (.map kvs)=>some kvs
 |_=>none
@[go_sem] theorem C6K(kvs:List (D×D)):C6J (some (.map kvs))=some kvs:=rfl
@[go_sem] theorem C7x(b:Nat):Y3 H (.map b)=C6J (H b):=by
 simp only[Y3];generalize H b=o;cases o with
 |none=>rfl
 |some o=>cases o<;>rfl
@[go_sem] theorem C8l(kvs:List (D×D)):Y3 H (.fm kvs)=some kvs:=rfl
def B5y(o:Option (List (D×D)))(KD:List (D×D)→Prop):Prop:=∃kvs,o=some kvs∧KD kvs
@[go_sem] theorem C5F(kvs:List (D×D))(K:List (D×D)→Prop):B5y (some kvs) K=K kvs:=by simp[B5y]
def B5z(bs:R7)(P:Program)(t:Nat)(d:D)(H:Heap)(KD:D→Heap→Prop):Prop:=match bs with
 | .map=>B5y (Y3 H d) fun kvs=>KD (.int .i64 kvs.length) H
 |_=>S4 (A5s P t d) KD H
@[go_sem] theorem C6L(t:Nat)(d:D):B5z .map P t d H KD=B5y (Y3 H d) fun kvs=>KD (.int .i64 kvs.length) H:=rfl
@[go_sem] theorem C20(t:Nat)(d:D):B5z .slice P t d H KD=S4 (A5s P t d) KD H:=rfl
@[go_sem] theorem C6M(t:Nat)(d:D):B5z .str P t d H KD=S4 (A5s P t d) KD H:=rfl
@[go_sem] theorem C9x(x:Operand)(t:Nat):D3 P ev H KD (.call ⟨.builtin .len,#[x],#[t]⟩)=B5z (C9 P t) P t (ev x) H KD:=by
 unfold B5z C9;cases d:P.underlying t with
 |none=>simp[D3,J0,d,S4,L5]
 |some u=>cases u<;>simp[D3,J0,d,S4,B5y,L5]
def B9I(bs:R7)(d:D):Option D:=match d with
 | .nilsl=>if bs= .slice then some (.int .i64 0)else none
 |_=>none
@[go_sem] theorem C6N:B9I .slice .nilsl=some (.int .i64 0):=rfl
def B24(z:Option D)(kvs:Option (List (D×D)))(kk:KK)(k:D)(ok:Bool):Option D:=match z,kvs with
 |some z,some kvs=>(Q0 kk k kvs 0).map (A23 ok z)
 |_,_=>none
@[go_sem] theorem C21(z k:D)(kvs:List (D×D))(d:KK)(ok:Bool):B24 (some z) (some kvs) d k ok=(Q0 d k kvs 0).map (A23 ok z):=rfl
def B50(T:Option (TypeId×TypeId×KK))(P:Program)(m k:D)(ok:Bool)(H:Heap):Option D:=match T with
 |some (_,et,kk)=>if S7 kk k=true then B24 (A5w P et) (Y3 H m) kk k ok else none
 |none=>none
@[go_sem] theorem C22(g e:TypeId)(d:KK)(m k:D)(ok:Bool):B50 (some (g,e,d)) P m k ok H=if S7 d k=true then B24 (A5w P e) (Y3 H m) d k ok else none:=rfl
@[go_sem] theorem C6O(t:Nat)(m k:Operand)(ok:Bool):D3 P ev H KD (.lookup t m k ok)=S4 (B50 (A3T P t) P (ev m) (ev k) ok H) KD H:=by
 show S4 (A1S P t (ev m) (ev k) ok H) KD H=_;unfold A1S B50 B24;cases A3T P t with
 |none=>rfl
 |some T=>
  obtain⟨e,d,g⟩:=T;simp only[D1Q];cases A5w P d<;>cases Y3 H (ev m)<;>simp
@[go_sem] theorem C6P(z d:D)(i:Nat):A23 true z (some (i,d))= .tuple [d,.bool true]:=rfl
@[go_sem] theorem C6Q(z:D):A23 true z none= .tuple [z,.bool false]:=rfl
@[go_sem] theorem C5G(b:R7)(s:ByteArray):S7 (.one b) (.str s)=true:=rfl
def B25(o:Option Obj)(b:Nat)(kk:KK)(k x:D)(H:Heap):Option Heap:=match o with
 |some (.map kvs)=>(Q0 kk k kvs 0).map fun r=>H.set b (.map (A5x kvs k x r))
 |_=>none
@[go_sem] theorem C5H(kvs:List (D×D))(b:Nat)(d:KK)(k x:D):B25 (some (.map kvs)) b d k x H=(Q0 d k kvs 0).map fun r=>H.set b (.map (A5x kvs k x r)):=rfl
def B51(T:Option (TypeId×TypeId×KK))(m k x:D)(H:Heap):Option Heap:=match T,m with
 |some (_,_,kk),.map b=>if S7 kk k=true then B25 (H b) b kk k x H else none
 |_,_=>none
@[go_sem] theorem C23(e g:TypeId)(d:KK)(b:Nat)(k x:D):B51 (some (e,g,d)) (.map b) k x H=if S7 d k=true then B25 (H b) b d k x H else none:=rfl
@[go_sem] theorem C1m(t:Nat)(m k x:Operand):D3 P ev H KD (.mapUpdate t m k x)=B0B (B51 (A3T P t) (ev m) (ev k) (ev x) H) KD:=by
 show B0B (A3U P t (ev m) (ev k) (ev x) H) KD=_;unfold A3U B51 B25;cases A3T P t with
 |none=>rfl
 |some T=>
  obtain⟨d,e,g⟩:=T;simp only[D1Q];cases ev m<;>try(simp;done)
  rename_i b;simp only;cases H b with
  |none=>simp
  |some o=>cases o<;>simp
@[go_sem] theorem C5I(t:Nat):D3 P ev H KD (.makeMap t none)= ∀b,H b=none→KD (.map b) (H.set b (.map [])):=rfl
@[go_sem] theorem C9y(x:Operand)(t:Nat):D3 P ev H KD (.call ⟨.builtin .cap,#[x],#[t]⟩)=S4 (B9I (C9 P t) (ev x)) KD H:=by
 have e:L5 P ev (.call ⟨.builtin .cap,#[x],#[t]⟩)=B9I (C9 P t) (ev x):=by
  simp only[L5,List.getElem?_toArray,List.getElem?_cons_zero,Option.map_some];unfold B9I;cases ev x<;>rfl
 show (∃d,L5 P ev (.call ⟨.builtin .cap,#[x],#[t]⟩)=some d∧KD d H)=_;rw[e];rfl
@[go_sem] theorem C9z(x y:Operand)(d:Array Nat):D3 P ev H KD (.call ⟨.builtin .max,#[x,y],d⟩)=S4 (A7E (ev x) (ev y)) KD H:=by
 show S4 (A7F A7E [ev x,ev y]) KD H=_;simp[A7F]
@[go_sem] theorem C6R(s x:Operand)(t d:Nat):D3 P ev H KD (.call ⟨.builtin .append,#[s,x],#[t,d]⟩)=A1R P ev H KD t d s x:=rfl
def C24(P:Program)(t:Nat)(d:D):Option D:=if C9 P t= .iface∨(P.underlying t).isNone then none else some (.iface t d)
@[go_sem] theorem C5J(t:Nat)(x:Operand):D3 P ev H KD (.makeInterface t x)=S4 (C24 P t (ev x)) KD H:=rfl
@[go_sem] theorem C8m(fn:Fn)(fs cs:List Operand):D3 P ev H KD (.makeFunc fn fs.toArray cs.toArray)=KD (.fn fn (fs.map ev) (cs.map ev)) H:=by
 show S4 _ KD H=_;simp[L5,A4U]
def A8Y(P:Program)(t:Nat)(ps:List (Nat×D)):Option D:=match C9 P t with
  | .struct=>(G2 P t).bind fun z=>(M1 P t).bind fun fs=>(s8 (fun i=>(fs[i]?).map fun f=>(f.1,f.2.2)) z ps).map .agg
  | .other=>(G2 P t).bind fun z=>(B1e P t).bind fun s=>(s8 (fun i=>some (i*s.2,s.2)) z ps).map .agg
  |_=>none
def B52(z:Option (List D))(s:Option (Nat×Nat))(ps:List (Nat×D)):Option D:=match z,s with
 |some z,some s=>(s8 (fun i=>some (i*s.2,s.2)) z ps).map .agg
 |_,_=>none
def B1y(b:R7)(z:Option (List D))(fs:Option (List (Nat×Bool×Nat)))(s:Option (Nat×Nat))(ps:List (Nat×D)):Option D:=match b with
 | .struct=>match z,fs with
  |some z,some fs=>(s8 (fun i=>(fs[i]?).map fun f=>(f.1,f.2.2)) z ps).map .agg
  |_,_=>none
 | .other=>B52 z s ps
 |_=>none
@[go_sem] theorem C5K(t:Nat)(ps:List (Nat×D)):A8Y P t ps=B1y (C9 P t) (G2 P t) (M1 P t) (B1e P t) ps:=by
 unfold A8Y B1y B52;cases C9 P t<;>try rfl
 ·cases G2 P t<;>try rfl
  cases M1 P t<;>rfl
 ·cases G2 P t<;>try rfl
  cases B1e P t<;>rfl
@[go_sem] theorem C1n(z:List D)(fs:List (Nat×Bool×Nat))(s:Option (Nat×Nat))(ps:List (Nat×D)):B1y .struct (some z) (some fs) s ps=(s8 (fun i=>(fs[i]?).map fun f=>(f.1,f.2.2)) z ps).map .agg:=rfl
@[go_sem] theorem C6S(d:Nat→Option (Nat×Nat))(cs:List D):s8 d cs []=some cs:=rfl
def B53(o:Option (Nat×Nat))(pl:Nat→Option (Nat×Nat))(cs:List D)(d:D)(ps:List (Nat×D)):Option (List D):=match o with
 |none=>none
 |some (off,size)=>if d.cells.length=size∧off+size≤cs.length∧d.cells.all D.one=true then s8 pl (P9 cs off d.cells) ps else none
@[go_sem] theorem C5L(e:Nat→Option (Nat×Nat))(cs:List D)(i:Nat)(d:D)(ps:List (Nat×D)):s8 e cs ((i,d)::ps)=B53 (e i) e cs d ps:=by
 rw[s8];unfold B53;cases e i<;>rfl
@[go_sem] theorem C25(off size:Nat)(e:Nat→Option (Nat×Nat))(cs:List D)(d:D)(ps:List (Nat×D)):B53 (some (off,size)) e cs d ps=if d.cells.length=size∧off+size≤cs.length∧d.cells.all D.one=true then s8 e (P9 cs off d.cells) ps else none:=rfl
@[go_sem] theorem C7y(t:Nat)(ps:List (Nat×Operand)):D3 P ev H KD (.build t ps.toArray)=S4 (A8Y P t (ps.map fun p=>(p.1,ev p.2))) KD H:=by
 show S4 _ KD H=_;simp only[L5,A8Y];cases C9 P t<;>rfl
variable {t:Nat} {c:Bool} {k:IntKind} {a b:Int}
@[go_sem] theorem C90:L3 P .add t c (.int k a) (.int k b)=some (.int k (k.wrap (a+b))):=by simp[L3,A3S]
@[go_sem] theorem C91:L3 P .sub t c (.int k a) (.int k b)=some (.int k (k.wrap (a-b))):=by simp[L3,A3S]
@[go_sem] theorem C92:L3 P .mul t c (.int k a) (.int k b)=some (.int k (k.wrap (a*b))):=by simp[L3,A3S]
@[go_sem] theorem C93:L3 P .quo t c (.int k a) (.int k b)=if b=0 then none else some (.int k (k.wrap (a.tdiv b))):=by simp[L3,A3S]
@[go_sem] theorem C94:L3 P .rem t c (.int k a) (.int k b)=if b=0 then none else some (.int k (a.tmod b)):=by simp[L3,A3S]
@[go_sem] theorem C95:L3 P .eql t c (.int k a) (.int k b)=some (.bool (decide (a=b))):=by simp[L3,A3S];rfl
@[go_sem] theorem C96:L3 P .neq t c (.int k a) (.int k b)=some (.bool (!decide (a=b))):=by simp[L3,A3S];rfl
@[go_sem] theorem C97:L3 P .lss t c (.int k a) (.int k b)=some (.bool (decide (a<b))):=by simp[L3,A3S]
@[go_sem] theorem C98:L3 P .leq t c (.int k a) (.int k b)=some (.bool (decide (a≤b))):=by simp[L3,A3S]
@[go_sem] theorem C99:L3 P .gtr t c (.int k a) (.int k b)=some (.bool (decide (b<a))):=by simp[L3,A3S]
@[go_sem] theorem D0A:L3 P .geq t c (.int k a) (.int k b)=some (.bool (decide (b≤a))):=by simp[L3,A3S]
@[go_sem] theorem C8n(x y:ByteArray):L3 P .add t c (.str x) (.str y)=if x.size+y.size≤9223372036854775807 then some (.str (x++y))else none:=rfl
@[go_sem] theorem C8o(x y:ByteArray):L3 P .eql t c (.str x) (.str y)=some (.bool (decide (B x=B y))):=by
 show some (D.bool (x.data.toList==y.data.toList))=_;unfold B;generalize x.data.toList=a;generalize y.data.toList=b;by_cases h:a=b<;>simp[h]
@[go_sem] theorem C8p(x y:ByteArray):L3 P .neq t c (.str x) (.str y)=some (.bool (!decide (B x=B y))):=by
 show some (D.bool (!(x.data.toList==y.data.toList)))=_;unfold B;generalize x.data.toList=a;generalize y.data.toList=b;by_cases h:a=b<;>simp[h]
@[go_sem] theorem C8q(x y:ByteArray):L3 P .lss t c (.str x) (.str y)=some (.bool (Op.bytesLess x.data.toList y.data.toList)):=rfl
@[go_sem] theorem C8r(x y:Bool):L3 P .eql t c (.bool x) (.bool y)=if C9 P t= .bool then some (.bool (x==y))else none:=rfl
@[go_sem] theorem C8s(x y:Bool):L3 P .neq t c (.bool x) (.bool y)=if C9 P t= .bool then some (.bool (!(x==y)))else none:=rfl
@[go_sem] theorem C8t(x:Bool):unD .not (.bool x)=some (.bool (!x)):=rfl
@[go_sem] theorem C8u:unD .neg (.int k a)=some (.int k (k.wrap (0-a))):=rfl
@[go_sem] theorem C6T(d:IntKind):B2q (.int k a) (.int d b)=some (.int k (if b<a then b else a)):=rfl
@[go_sem] theorem C6U(d:IntKind):A7E (.int k a) (.int d b)=some (.int k (if a<b then b else a)):=rfl
@[go_sem] theorem C8v(op:BinOp)(y:D):A1x P op t c (.int k a) y=L3 P op t c (.int k a) y:=by cases op<;>rfl
@[go_sem] theorem C8w(op:BinOp)(x:ByteArray)(y:D):A1x P op t c (.str x) y=L3 P op t c (.str x) y:=by cases op<;>rfl
@[go_sem] theorem C7z(op:BinOp)(x:Bool)(y:D):A1x P op t c (.bool x) y=L3 P op t c (.bool x) y:=by cases op<;>rfl
@[go_sem] theorem C6V(op:BinOp)(y:D):A1x P op t c .nilif y=L3 P op t c .nilif y:=by cases op<;>rfl
@[go_sem] theorem D0B(op:BinOp)(n:Nat)(es:List (List D))(y:D):A1x P op t c (.sl n es) y=L3 P op t c (.sl n es) y:=by cases op<;>rfl
@[go_sem] theorem C6W(op:BinOp)(u:Nat)(d y:D):A1x P op t c (.iface u d) y=L3 P op t c (.iface u d) y:=by cases op<;>rfl
def C26(l:Option (List (Nat×R7)))(xs ys:List D):Option Bool:=l.bind fun fs=>V7 fs xs ys
theorem A6G{sz:Nat}{es:List (List D)}(he:es≠[])(hb:C9 P t= .slice):L3 P .eql t true (.sl sz es) .nilsl=some (.bool false):=by
 cases es with
 |nil=>exact absurd rfl he
 |cons e es=>simp[L3,A5r,A9e,hb]
@[go_sem] theorem C27(xs d:List D):A1x P .neq t c (.agg xs) (.agg d)=(C26 (A1P P t) xs d).map fun b=>.bool (!b):=by
 show (A1P P t).bind _=_;unfold C26;cases A1P P t<;>rfl
@[go_sem] theorem C5M(fs:List (Nat×R7))(xs d:List D):C26 (some fs) xs d=V7 fs xs d:=rfl
@[go_sem] theorem C5N(xs d:List D):V7 [] xs d=some true:=rfl
def B54(x y:Option D)(bs:R7)(r:Option Bool):Option Bool:=match x,y with
 |some x,some y=>(V6 bs x y).bind fun c=>r.map (c&& ·)
 |_,_=>none
@[go_sem] theorem C28(o:Nat)(bs:R7)(fs:List (Nat×R7))(xs d:List D):V7 ((o,bs)::fs) xs d=B54 xs[o]? d[o]? bs (V7 fs xs d):=rfl
@[go_sem] theorem C6X(k:IntKind)(a b:Int)(r:Option Bool):B54 (some (.int k a)) (some (.int k b)) .int r=r.map (decide (a=b)&& ·):=by
 simp[B54,V6];rfl
@[go_sem] theorem C6Y(a b:ByteArray)(r:Option Bool):B54 (some (.str a)) (some (.str b)) .str r=r.map (decide (B a=B b)&& ·):=by
 have:(a.data.toList==b.data.toList)=decide (B a=B b):=by
  unfold B;generalize a.data.toList=x;generalize b.data.toList=y;by_cases h:x=y<;>simp[h]
 simp only[B54,V6,this,D1Q]
def elB(o:Option Obj)(sz lo n:Nat):Option (List (List D)):=match o with
 |some (.vec sz' es)=>if sz=sz'∧lo+n≤es.length then some ((es.drop lo).take n)else none
 |_=>none
@[go_sem] theorem C70(sz' sz lo n:Nat)(es:List (List D)):elB (some (.vec sz' es)) sz lo n=if sz=sz'∧lo+n≤es.length then some ((es.drop lo).take n)else none:=rfl
@[go_sem] theorem C6Z(sz sz':Nat)(es:List (List D)):M7 H sz (.sl sz' es)=if sz=sz' then some es else none:=rfl
@[go_sem] theorem C5O(sz b sz' lo n:Nat):M7 H sz (.vec b sz' lo n)=if sz=sz' then elB (H b) sz lo n else none:=by
 simp only[M7];generalize H b=o;cases o with
 |none=>rfl
 |some o=>cases o<;>rfl
@[go_sem] theorem C6a(es:List (List D)):A4H es []=some es:=rfl
@[go_sem] theorem C5P(es:List (List D))(i:Nat)(d:D)(ps:List (Nat×D)):A4H es ((i,d)::ps)=if i<es.length∧d.cells.length=(es.getD i []).length∧d.cells.all D.one=true then A4H (es.set i d.cells) ps else none:=rfl
def bsC(o:Option (List (List D)))(sz len:Nat)(H:Heap)(KD:D→Heap→Prop):Prop:=match o with
 |some es=>∀b,H b=none→KD (.vec b sz 0 len) (H.set b (.vec sz es))
 |none=>False
@[go_sem] theorem C6b(es:List (List D))(sz len:Nat):bsC (some es) sz len H KD= ∀b,H b=none→KD (.vec b sz 0 len) (H.set b (.vec sz es)):=rfl
def bsB(z:Option (List D))(sz len:Nat)(ps:List (Nat×D))(H:Heap)(KD:D→Heap→Prop):Prop:=match z with
 |some z=>z.length=sz∧bsC (A4H (List.replicate len z) ps) sz len H KD
 |none=>False
@[go_sem] theorem C6c(z:List D)(sz len:Nat)(ps:List (Nat×D)):bsB (some z) sz len ps H KD=(z.length=sz∧bsC (A4H (List.replicate len z) ps) sz len H KD):=rfl
def bsA(P:Program)(et:Option (Nat×Nat×Nat))(len:Nat)(ps:List (Nat×D))(H:Heap)(KD:D→Heap→Prop):Prop:=match et with
 |some (e,sz,_)=>0<sz∧len*sz≤16777216∧bsB (G2 P e) sz len ps H KD
 |none=>False
@[go_sem] theorem C6d(e sz d len:Nat)(ps:List (Nat×D)):bsA P (some (e,sz,d)) len ps H KD=(0<sz∧len*sz≤16777216∧bsB (G2 P e) sz len ps H KD):=rfl
@[go_sem] theorem B9J(t len:Nat)(ps:List (Nat×Operand)):D3 P ev H KD (.buildSlice t len ps.toArray)=bsA P (H6 P t) len (ps.map fun p=>(p.1,ev p.2)) H KD:=by
 show (∃e sz d z es,H6 P t=some (e,sz,d)∧0<sz∧len*sz≤16777216∧G2 P e=some z∧z.length=sz∧A4H (List.replicate len z) (ps.map fun p=>(p.1,ev p.2))=some es∧_)=_;apply propext;constructor
 ·rintro⟨e,sz,d,z,es,h1,g,i,m,h5,o,q⟩;rw[h1];refine⟨g,i,?_⟩;rw[m];refine⟨h5,?_⟩;rw[o];exact q
 ·intro h;cases he:H6 P t with
  |none=>rw[he]at h;exact h.elim
  |some e=>
   obtain⟨e,sz,d⟩:=e;rw[he]at h;obtain⟨g,i,h⟩:=h;cases j:G2 P e with
   |none=>rw[j]at h;exact h.elim
   |some z=>
    rw[j]at h;obtain⟨h5,h⟩:=h;cases hs:A4H (List.replicate len z) (ps.map fun p=>(p.1,ev p.2))with
    |none=>rw[hs]at h;exact h.elim
    |some es=>rw[hs]at h;exact⟨e,sz,d,z,es,rfl,g,i,j,h5,hs,h⟩
def apV(o:Option Obj)(b sz n by_:Nat)(xs:List (List D))(H:Heap)(KD:D→Heap→Prop):Prop:=match o with
 |some (.vec sz' es)=>sz=sz'∧n≤es.length∧(n+xs.length)*by_≤140737488355328∧n+xs.length≤9223372036854775807∧∀b',H.del b b'=none→KD (.vec b' sz 0 (n+xs.length)) ((H.del b).set b' (.vec sz (es.take n++xs)))
 |_=>False
@[go_sem] theorem C71(b sz sz' n d:Nat)(es xs:List (List D)):apV (some (.vec sz' es)) b sz n d xs H KD=(sz=sz'∧n≤es.length∧(n+xs.length)*d≤140737488355328∧n+xs.length≤9223372036854775807∧∀e,H.del b e=none→KD (.vec e sz 0 (n+xs.length)) ((H.del b).set e (.vec sz (es.take n++xs)))):=rfl
def apW(o:Option Obj)(b sz lo n by_:Nat)(xs:List (List D))(H:Heap)(KD:D→Heap→Prop):Prop:=match o with
 |some (.vec sz' es)=>sz=sz'∧lo+n≤es.length∧(n+xs.length)*by_≤140737488355328∧n+xs.length≤9223372036854775807∧∀b' pre,H.del b b'=none→KD (.vec b' sz pre.length (n+xs.length)) ((H.del b).set b' (.vec sz (pre++((es.drop lo).take n++xs))))
 |_=>False
def apL(lo:Nat)(o:Option Obj)(b sz n by_:Nat)(xs:List (List D))(H:Heap)(KD:D→Heap→Prop):Prop:=(lo=0∧apV o b sz n by_ xs H KD)∨apW o b sz lo n by_ xs H KD
@[go_sem] theorem D0F(o:Option Obj)(b sz n d:Nat)(xs:List (List D)):apL 0 o b sz n d xs H KD=apV o b sz n d xs H KD:=by
 refine propext ⟨fun h=>?_,fun h=>.inl ⟨rfl,h⟩⟩;rcases h with h|h
 ·exact h.2
 ·unfold apW at h;split at h
  ·obtain⟨h1,m,g,i,h5⟩:=h;exact⟨h1,by omega,g,i,fun j e=>by simpa using h5 j [] e⟩
  ·exact h.elim
def apS(s:D)(sz by_:Nat)(xs:List (List D))(H:Heap)(KD:D→Heap→Prop):Prop:=match s with
 | .nilsl=>xs.length*by_≤140737488355328∧xs.length≤9223372036854775807∧(xs= []→KD .nilsl H)∧(xs≠[]→∀b,H b=none→KD (.vec b sz 0 xs.length) (H.set b (.vec sz xs)))
 | .vec b sz' lo n=>sz'=sz∧apL lo (H b) b sz n by_ xs H KD
 |_=>False
@[go_sem] theorem C72(sz d:Nat)(xs:List (List D)):apS .nilsl sz d xs H KD=(xs.length*d≤140737488355328∧xs.length≤9223372036854775807∧(xs= []→KD .nilsl H)∧(xs≠[]→∀b,H b=none→KD (.vec b sz 0 xs.length) (H.set b (.vec sz xs)))):=rfl
@[go_sem] theorem C73(b sz sz' lo n d:Nat)(xs:List (List D)):apS (.vec b sz' lo n) sz d xs H KD=(sz'=sz∧apL lo (H b) b sz n d xs H KD):=rfl
def apX(o:Option (List (List D)))(s:D)(sz by_:Nat)(H:Heap)(KD:D→Heap→Prop):Prop:=match o with
 |some xs=>apS s sz by_ xs H KD
 |none=>False
@[go_sem] theorem C6e(xs:List (List D))(s:D)(sz d:Nat):apX (some xs) s sz d H KD=apS s sz d xs H KD:=rfl
def apZ(o:Option (List D))(sz:Nat):Prop:=match o with
 |some z=>z.length=sz
 |none=>False
@[go_sem] theorem C6f(z:List D)(sz:Nat):apZ (some z) sz=(z.length=sz):=rfl
def apT(b:R7):Prop:=b= .slice∨b= .str
@[go_sem] theorem C5Q:apT .slice=True:=by simp[apT]
def apK(P:Program)(et:Option (Nat×Nat×Nat))(bt:R7)(s x:D)(H:Heap)(KD:D→Heap→Prop):Prop:=match et with
 |some (e,sz,by_)=>0<sz∧apT bt∧apZ (G2 P e) sz∧apX (M7 H sz x) s sz by_ H KD
 |none=>False
@[go_sem] theorem C6g(e sz d:Nat)(g:R7)(s x:D):apK P (some (e,sz,d)) g s x H KD=(0<sz∧apT g∧apZ (G2 P e) sz∧apX (M7 H sz x) s sz d H KD):=rfl
@[go_sem] theorem C5R(s x:Operand)(t C:Nat):A1R P ev H KD t C s x=apK P (H6 P t) (C9 P C) (ev s) (ev x) H KD:=by
 unfold A1R;apply propext;constructor
 ·rintro⟨e,sz,j,h1,r,u,i,xs,h5,q⟩;rw[h1];refine⟨r,u,?_,?_⟩
  ·cases m:G2 P e with
   |none=>rw[m]at i;cases i
   |some z=>rw[m]at i;simpa [apZ]using i
  ·rw[h5];show apS _ _ _ _ _ _;cases hs:ev s<;>rw[hs]at q<;>try exact q.elim
   ·exact q
   ·obtain⟨p,⟨y,es,d,g⟩|⟨es,d,g⟩⟩:=q
    ·refine⟨p,.inl ⟨y,?_⟩⟩;rw[d];exact⟨rfl,g⟩
    ·refine⟨p,.inr ?_⟩;rw[d];exact⟨rfl,g⟩
 ·intro h;cases he:H6 P t with
  |none=>rw[he]at h;exact h.elim
  |some e=>
   obtain⟨e,sz,j⟩:=e;rw[he]at h;obtain⟨r,u,i,h5⟩:=h;cases hx:M7 H sz (ev x)with
   |none=>rw[hx]at h5;exact h5.elim
   |some xs=>
    rw[hx]at h5;refine⟨e,sz,j,rfl,r,u,?_,xs,hx,?_⟩
    ·cases m:G2 P e with
     |none=>rw[m]at i;exact i.elim
     |some z=>rw[m]at i;simpa [apZ]using i
    ·change apS _ _ _ _ _ _ at h5;cases hs:ev s<;>rw[hs]at h5<;>try exact h5.elim
     ·exact h5
     ·rename_i b sz' lo n;obtain⟨p,⟨y,d⟩|d⟩:=h5
      ·refine⟨p,.inl ⟨y,?_⟩⟩;cases ho:H b with
       |none=>rw[ho]at d;exact d.elim
       |some o=>
        rw[ho]at d;cases o with
        |vec A es=>obtain⟨rfl,g⟩:=d;exact⟨es,rfl,g⟩
        |_=>exact d.elim
      ·refine⟨p,.inr ?_⟩;cases ho:H b with
       |none=>rw[ho]at d;exact d.elim
       |some o=>
        rw[ho]at d;cases o with
        |vec A es=>obtain⟨rfl,g⟩:=d;exact⟨es,rfl,g⟩
        |_=>exact d.elim
def msC(z:Option (List D))(sz by_:Nat)(l c:D)(H:Heap)(KD:D→Heap→Prop):Prop:=match z,l,c with
 |some z,.int _ n,.int _ m=>z.length=sz∧0≤n∧n≤m∧by_*m≤281474976710656∧m<9223372036854775808∧∀b,H b=none→KD (.vec b sz 0 n.toNat) (H.set b (.vec sz (List.replicate n.toNat z)))
 |_,_,_=>False
@[go_sem] theorem C74(z:List D)(sz d:Nat)(k e:IntKind)(n m:Int):msC (some z) sz d (.int k n) (.int e m) H KD=(z.length=sz∧0≤n∧n≤m∧d*m≤281474976710656∧m<9223372036854775808∧∀b,H b=none→KD (.vec b sz 0 n.toNat) (H.set b (.vec sz (List.replicate n.toNat z)))):=rfl
def msA(P:Program)(et:Option (Nat×Nat×Nat))(l c:D)(H:Heap)(KD:D→Heap→Prop):Prop:=match et with
 |some (e,sz,by_)=>0<sz∧msC (G2 P e) sz by_ l c H KD
 |none=>False
@[go_sem] theorem C6h(e sz d:Nat)(l c:D):msA P (some (e,sz,d)) l c H KD=(0<sz∧msC (G2 P e) sz d l c H KD):=rfl
@[go_sem] theorem C1p(t:Nat)(l c:Operand):D3 P ev H KD (.makeSlice t l c)=msA P (H6 P t) (ev l) (ev c) H KD:=by
 simp only[D3];apply propext;constructor
 ·rintro⟨e,sz,g,z,k,n,r,m,h1,i,d,o,h5,p,q⟩;rw[h1,h5,p];refine⟨i,?_⟩;rw[d];exact⟨o,q⟩
 ·intro h;cases he:H6 P t with
  |none=>rw[he]at h;exact h.elim
  |some e=>
   obtain⟨e,sz,g⟩:=e;rw[he]at h;obtain⟨i,d⟩:=h;cases j:G2 P e with
   |none=>rw[j]at d;exact d.elim
   |some z=>
    rw[j]at d;cases hl:ev l<;>rw[hl]at d<;>try exact d.elim
    cases hc:ev c<;>rw[hc]at d<;>try exact d.elim
    exact⟨e,sz,g,z,_,_,_,_,rfl,i,j,d.1,rfl,rfl,d.2⟩
def A65(P:Program)(t:Nat):Option IntKind:=match P.underlying t with
 |some (.int k)=>some k
 |_=>none
def A8Z(P:Program)(t:Nat):Bool:=match P.underlying t with
 |some (.slice e)=>match P.underlying e with
  |some (.int .u8)=>true
  |_=>false
 |_=>false
def cvI(d:D)(k:Option IntKind)(H:Heap)(KD:D→Heap→Prop):Prop:=match d,k with
 | .int _ n,some k=>KD (.int k (k.wrap n)) H
 |_,_=>False
@[go_sem] theorem C75(k d:IntKind)(n:Int):cvI (.int k n) (some d) H KD=KD (.int d (d.wrap n)) H:=rfl
@[go_sem] theorem C5S(s t:Nat)(x:Operand)(h1:(A65 P s).isSome=true)(d:(A65 P t).isSome=true):D3 P ev H KD (.convert s t x)=cvI (ev x) (A65 P t) H KD:=by
 unfold A65 at h1 d;split at h1
 ·rename_i e e1;split at d
  ·rename_i g e2;have hc:J0 P (.convert s t x)= .pure:=by simp[J0,e1,e2]
   simp only[D3,hc,L5];unfold cvI A65;rw[e2];cases hx:ev x<;>simp[B2r,e1,e2,hx,B0D e1]
  ·cases d
 ·cases h1
def C83(d:D)(H:Heap)(KD:D→Heap→Prop):Prop:=match d with
 | .int _ n=>KD (.str (Utf8.encode n)) H
 |_=>False
@[go_sem] theorem C6i(k:IntKind)(n:Int):C83 (.int k n) H KD=KD (.str (Utf8.encode n)) H:=rfl
def C6j(d:D)(H:Heap)(KD:D→Heap→Prop):Prop:=match d with
 | .str z=>∀b,H b=none→KD (.vec b 1 0 z.size) (H.set b (.vec 1 (F1 z)))
 |_=>False
@[go_sem] theorem C6k(z:ByteArray):C6j (.str z) H KD= ∀b,H b=none→KD (.vec b 1 0 z.size) (H.set b (.vec 1 (F1 z))):=rfl
theorem A7Q(s t:Nat)(x:Operand)(h1:C9 P s= .str)(d:A8Z P t=true)(h:C6j (ev x) H KD):D3 P ev H KD (.convert s t x):=by
 obtain⟨e,g,he⟩: ∃e,P.underlying t=some (.slice e)∧P.underlying e=some (.int .u8):=by
  unfold A8Z at d;split at d
  ·rename_i e g;split at d
   ·rename_i he;exact⟨e,g,he⟩
   ·cases d
  ·cases d
 have hs:P.underlying s=some .string:=by
  unfold C9 at h1;split at h1<;>simp_all
 have hc:J0 P (.convert s t x)= .eff:=by simp[J0,hs,g]
 simp only[D3,hc,A2w];cases hx:ev x<;>rw[hx]at h<;>try exact h.elim
 exact⟨h1,by simp[g,he],h⟩
theorem B4U(t:Nat)(x:Operand){b:Nat}(z:ByteArray)(h1:A8Z P t=true)(hx:ev x= .vec b 1 0 z.size)(g:0<z.size)(hb:H b=some (.vec 1 (F1 z)))(h:KD (.sl 1 (F1 z)) (H.del b)):D3 P ev H KD (.convert t t x):=by
 obtain⟨e,d,he⟩: ∃e,P.underlying t=some (.slice e)∧P.underlying e=some (.int .u8):=by
  unfold A8Z at h1;split at h1
  ·rename_i e d;split at h1
   ·rename_i he;exact⟨e,d,he⟩
   ·cases h1
  ·cases h1
 have hc:J0 P (.convert t t x)= .eff:=by simp[J0,d]
 simp only[D3,hc,A2w,hx];exact .inr ⟨trivial,by simp[d,he],b,z,rfl,g,hb,h⟩
def A8a(P:Program)(t:Nat)(x:D)(H:Heap)(KD:D→Heap→Prop):Prop:=match x with
 | .str s=>P.underlying t=some .string∧∀b,H b=none→KD (.box b 0) (H.set b (.iter s 0))
 | .fm kvs=>(A3T P t).isSome=true∧∀b,H b=none→KD (.box b 0) (H.set b (.rng kvs []))
 |_=>False
@[go_sem] theorem C76(t:Nat)(x:Operand):D3 P ev H KD (.range t x)=A8a P t (ev x) H KD:=by
 unfold A8a;rfl
@[go_sem] theorem C5T(t:Nat)(kvs:List (D×D)):A8a P t (.fm kvs) H KD=((A3T P t).isSome=true∧∀b,H b=none→KD (.box b 0) (H.set b (.rng kvs []))):=rfl
@[go_sem] theorem C29(t:Nat)(s:ByteArray):A8a P t (.str s) H KD=(P.underlying t=some .string∧∀b,H b=none→KD (.box b 0) (H.set b (.iter s 0))):=rfl
def B26(o:Option Obj)(b:Nat)(H:Heap)(KD:D→Heap→Prop):Prop:=match o with
 |some (.iter s pos)=>(pos<s.size→KD (.tuple [.bool true,.int .i64 pos,.int .i32 (Utf8.decode s pos).1]) (H.set b (.iter s (pos+(Utf8.decode s pos).2))))∧(¬pos<s.size→KD (.tuple [.bool false]) H)
 |_=>False
def B55(x:D)(H:Heap)(KD:D→Heap→Prop):Prop:=match x with
 | .box b 0=>B26 (H b) b H KD
 |_=>False
@[go_sem] theorem C84(x:Operand):D3 P ev H KD (.next x true)=B55 (ev x) H KD:=by
 unfold B55 B26;simp only[D3];cases ev x<;>try rfl
 rename_i b off;cases off<;>rfl
def nxR(kvs:List (D×D))(seen:List Nat)(b:Nat)(H:Heap)(KD:D→Heap→Prop):Prop:=(∀i p,kvs[i]? =some p→i∉seen→KD (.tuple [.bool true,p.1,p.2]) (H.set b (.rng kvs (seen++[i]))))∧((∀i,i<kvs.length→i∈seen)→KD (.tuple [.bool false]) H)
theorem A8b{kvs:List (D×D)}{seen:List Nat}{b:Nat}(h1: ∀i (hi:i<kvs.length),i∉seen→KD (.tuple [.bool true,kvs[i].1,kvs[i].2]) (H.set b (.rng kvs (seen++[i]))))(d:(∀i,i<kvs.length→i∈seen)→KD (.tuple [.bool false]) H):nxR kvs seen b H KD:=
 ⟨fun i p hp hn=>by obtain⟨hi,rfl⟩:=D06.1 hp;exact h1 i hi hn,d⟩
def B27(o:Option Obj)(b:Nat)(H:Heap)(KD:D→Heap→Prop):Prop:=match o with
 |some (.rng kvs seen)=>nxR kvs seen b H KD
 |_=>False
def B56(x:D)(H:Heap)(KD:D→Heap→Prop):Prop:=match x with
 | .box b 0=>B27 (H b) b H KD
 |_=>False
@[go_sem] theorem C78(x:Operand):D3 P ev H KD (.next x false)=B56 (ev x) H KD:=by
 unfold B56 B27 nxR;simp only[D3];cases ev x<;>try rfl
 rename_i b off;cases off<;>rfl
@[go_sem] theorem C5U(b:Nat):B56 (.box b 0) H KD=B27 (H b) b H KD:=rfl
@[go_sem] theorem C5V(kvs:List (D×D))(seen:List Nat)(b:Nat):B27 (some (.rng kvs seen)) b H KD=nxR kvs seen b H KD:=rfl
def B9K(o:Option (D×D))(H:Heap)(KD:D→Heap→Prop):Prop:=match o with
 |some p=>KD (.tuple [p.1,p.2]) H
 |none=>False
def B57(o:Option Nat)(kvs:List (D×D))(H:Heap)(KD:D→Heap→Prop):Prop:=match o with
 |some i=>B9K kvs[i]? H KD
 |none=>False
def B9L(o:Option Obj)(H:Heap)(KD:D→Heap→Prop):Prop:=match o with
 |some (.rng kvs seen)=>B57 seen.getLast? kvs H KD
 |_=>False
def C3A(x:D)(H:Heap)(KD:D→Heap→Prop):Prop:=match x with
 | .box b 0=>B9L (H b) H KD
 |_=>False
theorem B9M(o:Option Nat)(kvs:List (D×D)):(∃i p,o=some i∧kvs[i]? =some p∧KD (.tuple [p.1,p.2]) H)=B57 o kvs H KD:=by
 unfold B57 B9K;cases o with
 |none=>simp
 |some i=>
  cases e:kvs[i]? with
  |none=>simp[e]
  |some p=>exact propext ⟨fun⟨j,q,h1,d,g⟩=>by cases h1;rw[e]at d;cases d;simp only[e];exact g,fun h=>⟨i,p,rfl,e,by simp only[e]at h;exact h⟩⟩
@[go_sem] theorem C79(x:Operand):D3 P ev H KD (.entry x)=C3A (ev x) H KD:=by
 unfold C3A B9L;simp only[D3,B9M];cases ev x<;>try rfl
@[go_sem] theorem C6l(b:Nat):C3A (.box b 0) H KD=B9L (H b) H KD:=rfl
@[go_sem] theorem C6m(kvs:List (D×D))(seen:List Nat):B9L (some (.rng kvs seen)) H KD=B57 seen.getLast? kvs H KD:=rfl
@[go_sem] theorem C5W(i:Nat)(kvs:List (D×D)):B57 (some i) kvs H KD=B9K kvs[i]? H KD:=rfl
@[go_sem] theorem C5X(p:D×D):B9K (some p) H KD=KD (.tuple [p.1,p.2]) H:=rfl
@[go_sem] theorem C5Y(b:Nat):B55 (.box b 0) H KD=B26 (H b) b H KD:=rfl
@[go_sem] theorem C3B(s:ByteArray)(pos b:Nat):B26 (some (.iter s pos)) b H KD=((pos<s.size→KD (.tuple [.bool true,.int .i64 pos,.int .i32 (Utf8.decode s pos).1]) (H.set b (.iter s (pos+(Utf8.decode s pos).2))))∧(¬pos<s.size→KD (.tuple [.bool false]) H)):=rfl
variable {t:Nat}
@[go_sem] theorem A3(b:Nat)(o:Obj):(H.set b o) b=some o:=by simp[Heap.set]
theorem B9{b k:Nat}(o:Obj)(h:k≠b):(H.set b o) k=H k:=by simp[Heap.set,h]
@[go_sem] theorem B9N(b:Nat)(o o':Obj):(H.set b o).set b o'=H.set b o':=by
 funext k;unfold Heap.set;split<;>rfl
theorem B4{b:Nat}{o:Obj}(h:H b=some o):(H.set b o).Le H:=fun k x hx=>by
 unfold Heap.set at hx;split at hx
 ·rename_i e;rw[e,h];exact hx
 ·exact hx
theorem A6{b k:Nat}{o:Obj}:(H.set b o) k=none↔k≠b∧H k=none:=by unfold Heap.set;by_cases h:k=b<;>simp[h]
theorem E5{b k:Nat}(h:k≠b):(H.del b) k=H k:=by simp[Heap.del,h]
theorem A0{b:Nat}{o:Obj}(h:H b=none):H.Le (H.set b o):=fun k x hx=>by
 rw[B9 o (by rintro rfl;rw[h]at hx;cases hx)];exact hx
theorem A4{b k:Nat}(o:Obj)(h:k≠b):(H.set b o) k=H k:=by simp[Heap.set,h]
def B58:Option (Bool×Nat)→Option (List D)→Option D
 |some s,some cs=>z8 s cs
 |_,_=>none
@[go_sem] theorem C6n(a:D):A0B P t a H=B58 (F9 P t) (A4G H a):=by
 unfold A0B B58;cases F9 P t<;>simp;cases A4G H a<;>rfl
@[go_sem] theorem C3C(s:Bool×Nat)(cs:List D):B58 (some s) (some cs)=z8 s cs:=rfl
def C6o:Option Obj→Nat→Option (List D)
 |some (.box cs _),off=>some (cs.drop off)
 |_,_=>none
def C6p:Option Obj→Nat→Nat→Nat→Option (List D)
 |some (.vec sz' es),sz,i,off=>if sz=sz' then(es[i]?).map (·.drop off)else none
 |_,_,_,_=>none
@[go_sem] theorem C8A(b off:Nat):A4G H (.box b off)=C6o (H b) off:=by
 simp only[A4G];generalize H b=o;cases o with
 |none=>rfl
 |some o=>cases o<;>rfl
@[go_sem] theorem C85(b sz i off:Nat):A4G H (.el b sz i off)=C6p (H b) sz i off:=by
 simp only[A4G];generalize H b=o;cases o with
 |none=>rfl
 |some o=>cases o<;>rfl
@[go_sem] theorem C86(cs:List D):A4G H (.ro cs)=some cs:=rfl
@[go_sem] theorem C6q(cs:List D)(Z:Option TypeId)(off:Nat):C6o (some (.box cs Z)) off=some (cs.drop off):=rfl
@[go_sem] theorem C6r(sz sz' i off:Nat)(es:List (List D)):C6p (some (.vec sz' es)) sz i off=if sz=sz' then(es[i]?).map (·.drop off)else none:=rfl
@[go_sem] theorem C6s(n:Nat)(cs:List D):z8 (false,n) cs=cs.head?:=rfl
@[go_sem] theorem C6t(n:Nat)(cs:List D):z8 (true,n) cs=if n≤cs.length then some (.agg (cs.take n))else none:=rfl
def A4V:Option (Bool×Nat)→Option Obj→Nat→Nat→List D→Heap→Option Heap
 |some (_,n),some (.box cs Z),b,off,xs,H=>if n=xs.length∧xs.all D.one=true∧off+xs.length≤cs.length then some (H.set b (.box (P9 cs off xs) Z))else none
 |_,_,_,_,_,_=>none
def A0H:Option (Bool×Nat)→Option Obj→Nat→Nat→Nat→Nat→List D→Heap→Option Heap
 |some (_,n),some (.vec sz' es),b,sz,i,off,xs,H=>if n=xs.length∧xs.all D.one=true∧sz=sz'∧i<es.length∧off+xs.length≤sz then some (H.set b (.vec sz (es.set i (P9 (es.getD i []) off xs))))else none
 |_,_,_,_,_,_,_,_=>none
@[go_sem] theorem C5Z(b off:Nat)(x:D):Z0 P t (.box b off) x H=A4V (F9 P t) (H b) b off x.cells H:=by
 unfold Z0;cases hs:F9 P t with
 |none=>simp[A4V]
 |some s=>
  obtain⟨bb,n⟩:=s;cases hb:H b with
  |none=>simp[A4V,hb]
  |some o=>cases o with
   |box cs=>
    simp only[Option.map_some,D1Y,A4V,hb];by_cases h1:n=x.cells.length<;>by_cases d:x.cells.all D.one=true<;>by_cases e:off+x.cells.length≤cs.length<;>simp only[h1,d,e]<;>simp
   |_=>simp[A4V,hb]
@[go_sem] theorem C6u(b sz i off:Nat)(x:D):Z0 P t (.el b sz i off) x H=A0H (F9 P t) (H b) b sz i off x.cells H:=by
 unfold Z0;cases hs:F9 P t with
 |none=>simp[A0H]
 |some s=>
  obtain⟨bb,n⟩:=s;cases hb:H b with
  |none=>simp[A0H,hb]
  |some o=>cases o with
   |box cs=>simp[A0H,hb]
   |ro cs=>simp[A0H,hb]
   |iter=>simp[A0H,hb]
   |map=>simp[A0H,hb]
   |rng=>simp[A0H,hb]
   |buf=>simp[A0H,hb]
   |vec sz' es=>
    simp only[Option.map_some,D1Y,A0H,hb];by_cases h1:n=x.cells.length<;>by_cases d:x.cells.all D.one=true<;>simp only[h1,d]<;>simp
@[go_sem] theorem C3D(bb:Bool)(n b off:Nat)(cs xs:List D)(Z:Option TypeId):A4V (some (bb,n)) (some (.box cs Z)) b off xs H=if n=xs.length∧xs.all D.one=true∧off+xs.length≤cs.length then some (H.set b (.box (P9 cs off xs) Z))else none:=rfl
@[go_sem] theorem C3E(bb:Bool)(n b sz sz' i off:Nat)(es:List (List D))(xs:List D):A0H (some (bb,n)) (some (.vec sz' es)) b sz i off xs H=if n=xs.length∧xs.all D.one=true∧sz=sz'∧i<es.length∧off+xs.length≤sz then some (H.set b (.vec sz (es.set i (P9 (es.getD i []) off xs))))else none:=rfl
@[go_sem] theorem C5a(cs:List D)(i:Nat):P9 cs i []=cs:=by cases cs<;>rfl
@[go_sem] theorem C3F(cs xs:List D)(i:Nat)(x:D):P9 cs i (x::xs)=P9 (cs.set i x) (i+1) xs:=by cases cs<;>rfl
@[go_sem] theorem C5b(cs:List D):(D.agg cs).cells=cs:=rfl
@[go_sem] theorem C5c(k:IntKind)(n:Int):(D.int k n).cells= [.int k n]:=rfl
@[go_sem] theorem C3G(b:Bool):(D.bool b).cells= [.bool b]:=rfl
@[go_sem] theorem C5d(s:ByteArray):(D.str s).cells= [.str s]:=rfl
@[go_sem] theorem C1q:D.nilsl.cells= [.nilsl]:=rfl
@[go_sem] theorem C6v(sz:Nat)(es:List (List D)):(D.sl sz es).cells= [.sl sz es]:=rfl
@[go_sem] theorem C5e(b sz lo n:Nat):(D.vec b sz lo n).cells= [.vec b sz lo n]:=rfl
@[go_sem] theorem C5f(b:Nat):(D.map b).cells= [.map b]:=rfl
attribute [go_sem] D.one
def A0I(e:Option (Nat×Nat×Nat))(sz:Nat)(o:Option D):Option D:=match e with
 |some (_,sz',_)=>if sz'=sz then o else none
 |none=>none
@[go_sem] theorem C1r(e sz' d sz:Nat)(o:Option D):A0I (some (e,sz',d)) sz o=if sz'=sz then o else none:=rfl
def A3A(x:D):Option (Nat×Nat)→Option D
 |none=>none
 |some (l,h)=>match x with
  | .str s=>some (.str (s.extract l h))
  | .nilsl=>some .nilsl
  | .sl sz es=>some (.sl sz ((es.take h).drop l))
  | .vec b sz lo _=>some (if l=0 then .vec b sz lo h else .vec b sz (lo+l) (h-l))
  |_=>none
def Z3(x:D)(b:Option (Nat×Nat)):Option D:=A3A x b
theorem A19(x:D)(c:Prop) [Decidable c] (b:Option (Nat×Nat)):Z3 x (if c then b else none)=if c then Z3 x b else none:=by split<;>rfl
theorem C3H(n:Nat)(k:IntKind)(l:Int):boundsD n (some (.int k l)) none=if 0≤l∧l≤n then some (l.toNat,n)else none:=rfl
theorem C3I(n:Nat)(k:IntKind)(h:Int):boundsD n none (some (.int k h))=if 0≤h∧h≤n then some (0,h.toNat)else none:=rfl
theorem C3J(n:Nat)(k d:IntKind)(l h:Int):boundsD n (some (.int k l)) (some (.int d h))=if 0≤l∧l≤h∧h≤n then some (l.toNat,h.toNat)else none:=rfl
theorem A4W(s:ByteArray)(lo d:Option D):U3 P t (.str s) lo d=if C9 P t= .str then Z3 (.str s) (boundsD s.size lo d)else none:=by
 simp only[U3,Z3];generalize boundsD s.size lo d=o;cases o<;>rfl
def B1z(b:R7)(o:Option D):Option D:=if b= .str then o else none
@[go_sem] theorem C6w(o:Option D):B1z .str o=o:=rfl
@[go_sem] theorem B9O(s:ByteArray)(k:IntKind)(l:Int):U3 P t (.str s) (some (.int k l)) none=B1z (C9 P t) (if 0≤l∧l≤s.size then some (.str (S ((B s).drop l.toNat)))else none):=by
 rw[A4W];unfold B1z;have:s.extract l.toNat s.size=S ((B s).drop l.toNat):=by rw[A4T,←U7,List.take_length]
 rw[C3H,A19];split
 ·split
  ·show some (D.str (s.extract l.toNat s.size))=_;rw[this]
  ·rfl
 ·rfl
@[go_sem] theorem B9P(s:ByteArray)(k:IntKind)(h:Int):U3 P t (.str s) none (some (.int k h))=B1z (C9 P t) (if 0≤h∧h≤s.size then some (.str (S ((B s).take h.toNat)))else none):=by
 rw[A4W];unfold B1z;have:s.extract 0 h.toNat=S ((B s).take h.toNat):=by rw[A4T,List.drop_zero]
 rw[C3I,A19];split
 ·split
  ·show some (D.str (s.extract 0 h.toNat))=_;rw[this]
  ·rfl
 ·rfl
@[go_sem] theorem B9Q(s:ByteArray)(k d:IntKind)(l h:Int):U3 P t (.str s) (some (.int k l)) (some (.int d h))=B1z (C9 P t) (if 0≤l∧l≤h∧h≤s.size then some (.str (S (((B s).take h.toNat).drop l.toNat)))else none):=by
 rw[A4W];unfold B1z;rw[C3J,A19];split
 ·split
  ·show some (D.str (s.extract l.toNat h.toNat))=_;rw[A4T]
  ·rfl
 ·rfl
@[go_sem] theorem C5g(lo d:Option D):U3 P t .nilsl lo d=if(H6 P t).isSome then Z3 .nilsl (boundsD 0 lo d)else none:=by
 simp only[U3,Z3];generalize boundsD 0 lo d=o;cases o<;>rfl
@[go_sem] theorem C6x(sz:Nat)(es:List (List D))(lo d:Option D):U3 P t (.sl sz es) lo d=A0I (H6 P t) sz (Z3 (.sl sz es) (boundsD es.length lo d)):=by
 simp only[U3,Z3];generalize boundsD es.length lo d=o;cases H6 P t with
 |none=>simp[A0I]
 |some e=>cases o<;>simp[A3A,A0I]
@[go_sem] theorem C5h(b sz l n:Nat)(lo d:Option D):U3 P t (.vec b sz l n) lo d=A0I (H6 P t) sz (Z3 (.vec b sz l n) (boundsD n lo d)):=by
 simp only[U3,Z3];generalize boundsD n lo d=o;cases H6 P t with
 |none=>simp[A0I]
 |some e=>cases o<;>simp[A3A,A0I]
@[go_sem] theorem C1s(x:D)(l h:Nat):Z3 x (some (l,h))=A3A x (some (l,h)):=rfl
@[go_sem] theorem C3K(x:D)(c:Prop) [Decidable c] (b:Option (Nat×Nat)):Z3 x (if c then b else none)=if c then Z3 x b else none:=by split<;>rfl
@[go_sem] theorem C3L(l h:Nat):A3A .nilsl (some (l,h))=some .nilsl:=rfl
@[go_sem] theorem C5i(sz l h:Nat)(es:List (List D)):A3A (.sl sz es) (some (l,h))=some (.sl sz ((es.take h).drop l)):=rfl
@[go_sem] theorem C3M(b sz lo n l h:Nat):A3A (.vec b sz lo n) (some (l,h))=some (if l=0 then .vec b sz lo h else .vec b sz (lo+l) (h-l)):=rfl
@[go_sem] theorem D0I(n:Nat)(k:IntKind)(l:Int):boundsD n (some (.int k l)) none=if 0≤l∧l≤n then some (l.toNat,n)else none:=rfl
@[go_sem] theorem D0J(n:Nat)(k:IntKind)(h:Int):boundsD n none (some (.int k h))=if 0≤h∧h≤n then some (0,h.toNat)else none:=rfl
@[go_sem] theorem C8B(s:ByteArray):A5s P t (.str s)=if C9 P t= .str then some (.int .i64 s.size)else none:=rfl
@[go_sem] theorem C8C:A5s P t .nilsl=if C9 P t= .slice then some (.int .i64 0)else none:=rfl
@[go_sem] theorem C87(sz:Nat)(es:List (List D)):A5s P t (.sl sz es)=if C9 P t= .slice then some (.int .i64 es.length)else none:=rfl
@[go_sem] theorem C8D(b sz lo n:Nat):A5s P t (.vec b sz lo n)=if C9 P t= .slice then some (.int .i64 n)else none:=rfl
@[go_sem] theorem C88(s:ByteArray)(k:IntKind)(n:Int):A5t P t (.str s) (.int k n)=if C9 P t= .str∧0≤n∧n<s.size then some (.int .u8 (S3 s n))else none:=rfl
@[go_sem] theorem D0K(sz:Nat)(es:List (List D))(k:IntKind)(n:Int):Q8 P t (.sl sz es) (.int k n)=A0I (H6 P t) sz (if 0≤n∧n<es.length then some (.ro (es.getD n.toNat []))else none):=by
 unfold Q8 A0I;cases H6 P t with
 |none=>simp
 |some e=>obtain⟨a,b,c⟩:=e;by_cases h:b=sz<;>simp[h]
@[go_sem] theorem C89(b sz l m:Nat)(k:IntKind)(n:Int):Q8 P t (.vec b sz l m) (.int k n)=A0I (H6 P t) sz (if 0≤n∧n<m then some (.el b sz (l+n.toNat) 0)else none):=by
 unfold Q8 A0I;cases H6 P t with
 |none=>simp
 |some e=>obtain⟨a,d,c⟩:=e;by_cases h:d=sz<;>simp[h]
def A6H(f:Option (Nat×Bool×Nat))(x:D):Option D:=match f with
 |some (o,_,n)=>if n=0 then none else match x with
  | .box b off=>some (.box b (off+o))
  | .el b sz i off=>some (.el b sz i (off+o))
  | .ro cs=>some (.ro (cs.drop o))
  |_=>none
 |none=>none
def A8c(l:Option (List (Nat×Bool×Nat)))(f:Nat):Option (Nat×Bool×Nat):=match l with
 |some l=>l[f]?
 |none=>none
@[go_sem] theorem B9R(l:List (Nat×Bool×Nat))(f:Nat):A8c (some l) f=l[f]? :=rfl
@[go_sem] theorem C9A(x:D)(f:Nat):Y8 P t x f=A6H (A8c (M1 P t) f) x:=by
 unfold Y8 A6H A8c;cases M1 P t<;>rfl
@[go_sem] theorem C3N(o n b off:Nat)(bb:Bool):A6H (some (o,bb,n)) (.box b off)=if n=0 then none else some (.box b (off+o)):=rfl
@[go_sem] theorem C5j(o n b sz i off:Nat)(bb:Bool):A6H (some (o,bb,n)) (.el b sz i off)=if n=0 then none else some (.el b sz i (off+o)):=rfl
@[go_sem] theorem C5k(o n:Nat)(bb:Bool)(cs:List D):A6H (some (o,bb,n)) (.ro cs)=if n=0 then none else some (.ro (cs.drop o)):=rfl
@[go_sem] theorem C6y(d:List ResultVar)(Q:D→Heap→Prop):A8S P d Q .ret E H=B9E (A28 P d E H) Q H:=rfl
@[go_sem] theorem C1t(d:List ResultVar)(Q:D→Heap→Prop):A8S P d Q .normal E H=B9E (A28 P d E H) Q H:=rfl
@[go_sem] theorem C5l(d:D)(Q:D→Heap→Prop):B9E (some d) Q H=Fin Q d H:=by simp[B9E]
@[go_sem] theorem C5m:A28 P [] E H=some (.tuple []):=rfl
@[go_sem] theorem C6z(t:Nat):A28 P [.tmp t] E H=some (E.get t):=rfl
def B10(P:Program)(rs:List ResultVar)(E:Env)(H:Heap):Option (List D):=rs.mapM (A0d P E H)
def C1u:Option D→Option (List D)→Option (List D)
 |some d,some l=>some (d::l)
 |_,_=>none
@[go_sem] theorem C3O(d:D)(l:List D):C1u (some d) (some l)=some (d::l):=rfl
@[go_sem] theorem C60:B10 P [] E H=some []:=rfl
@[go_sem] theorem A7R(r:ResultVar)(d:List ResultVar):B10 P (r::d) E H=C1u (A0d P E H r) (B10 P d E H):=by
 simp only[B10,List.mapM_cons,Option.bind_eq_bind,Option.pure_def];cases A0d P E H r<;>cases List.mapM (A0d P E H) d<;>rfl
@[go_sem] theorem C5n(r d:ResultVar)(e:List ResultVar):A28 P (r::d::e) E H=(B10 P (r::d::e) E H).map .tuple:=by
 unfold A28;show Option.map _ (B10 P (r::d::e) E H)=_;rw[A7R,A7R];cases A0d P E H r<;>cases A0d P E H d<;>cases B10 P e E H<;>rfl
@[go_sem] theorem C5o(t:Nat):A0d P E H (.tmp t)=some (E.get t):=rfl
@[go_sem] theorem C3P(a t:Nat):A0d P E H (.cell a t)=A0B P t (E.get a) H:=rfl
@[go_sem] theorem C5p(a t:Nat):A28 P [.cell a t] E H=A0B P t (E.get a) H:=by
 simp[A28,A0d,List.mapM_cons];cases A0B P t (E.get a) H<;>rfl
end
theorem A5{x:Int}(h1: -9223372036854775808≤x)(d:x≤9223372036854775807):IntKind.i64.wrap x=x:=IntWalk.i64_in _ (by omega)
def Sub:Env→Env→Prop
 | [],_=>True
 |(i,d)::r,E=>E.get i=d∧Sub r E
def Nx{ι :Type}(Ei: ι →Env)(Hi: ι →Heap)(Inv: ι →Prop)(μ : ι →Nat)(x: ι):Env→Heap→Prop:=fun E' H'=>∃y,Inv y∧ μ y< μ x∧A1A (Ei y) (Hi y) E' H'
theorem Sub.all: ∀{E0 E:Env},Sub E0 E→∀p∈E0,E.get p.1=p.2
 | [],_,_,_,hp=>by simp at hp
 |(i,d)::r,E,h,p,hp=>by
  rcases D1O.1 hp with rfl|hp
  ·exact h.1
  ·exact Sub.all h.2 p hp
theorem C3Q{P:Program}{Z:List (Nat×Rc)}{c:Code}{Q:AX→Env→Heap→Prop}{E:Env}{H:Heap}{ι :Type}(e: ι →Env)(g: ι →Heap)(d: ι →Prop)(μ : ι →Nat)(h: ι)(p:d h)(hw:A1A (e h) (g h) E H)
  (step: ∀x,d x→wp P Z c (A6E Q (Nx e g d μ x)) (e x) (g x)):B5s P Z c Q E H:=by
 refine⟨fun n E H=>∃x,d x∧ μ x=n∧E=e x∧H=g x,⟨μ h,e h,g h,hw,h,p,rfl,rfl,rfl⟩,?_⟩;rintro n q r ⟨x,hx,rfl,rfl,rfl⟩;have i:(fun o H'=>∃m E0 H0,m< μ x∧A1A E0 H0 o H'∧∃x,d x∧ μ x=m∧E0=e x∧H0=g x)=Nx e g d μ x:=by
  funext o H'
  apply propext;constructor
  ·rintro⟨m,E0,H0,hm,hw,y,j,rfl,rfl,rfl⟩;exact⟨y,j,hm,hw⟩
  ·rintro⟨y,j,hm,hs⟩;exact⟨μ y,e y,g y,hm,hs,y,j,rfl,rfl,rfl⟩
 have:=step x hx;rw[i];exact this
theorem C3R{P:Program}{Z:List (Nat×Rc)}{c:Code}{Q:AX→Env→Heap→Prop}{E:Env}{H:Heap}{ι :Type}(e: ι →Env)(g: ι →Heap)(d: ι →Prop)(μ : ι →Nat)(h: ι)(i:d h)(j:Sub (e h) E)(m:(g h).Le H)
  (step: ∀x,d x→wp P Z c (A6E Q (Nx e g d μ x)) (e x) (g x)):B5s P Z c Q E H:=C3Q e g d μ h i (A5a j.all m) step
attribute [go_sem] Sub
theorem O5{P:Program}{K:Env→Heap→Prop}{E:Env}{H:Heap}{d:List (Option Nat)}{ops:List Oper}(E0:Env)(H0:Heap)(e:Sub E0 E)(g:H0.Le H)(h:wpOps P d K ops E0 H0):A41 P d ops K E H (some .wk):=⟨E0,H0,A5a e.all g,h⟩
theorem Z4{C T G:Prop}(h:(C→T)→G)(t:C→T):G:=h t
def A3B(E:Env):List Nat→Env
 | []=>[]
 |t::ts=>(t,E.get t)::A3B E ts
def cat:Env→Env→Env
 | [],F=>F
 |p::E,F=>p::cat E F
@[go_sem] theorem C3S(E:Env):A3B E []= []:=rfl
@[go_sem] theorem C1w(E:Env)(t:Nat)(d:List Nat):A3B E (t::d)=(t,E.get t)::A3B E d:=rfl
@[go_sem] theorem C8E(F:Env):cat [] F=F:=rfl
@[go_sem] theorem C61(p:Nat×D)(E F:Env):cat (p::E) F=p::cat E F:=rfl
theorem B28: ∀{A B E:Env},Sub A E→Sub B E→Sub (cat A B) E
 | [],_,_,_,h=>h
 |_::_,_,_,h1,d=>⟨h1.1,B28 h1.2 d⟩
theorem A6I(E:Env): ∀d,Sub (A3B E d) E
 | []=>trivial
 |_::d=>⟨rfl,A6I E d⟩
theorem C8{P:Program}{Z:List (Nat×Rc)}{c:Code}{Q:AX→Env→Heap→Prop}{E:Env}{H:Heap}{ι :Type}(i:List Nat)(e: ι →Env)(g: ι →Heap)(d: ι →Prop)(μ : ι →Nat)(h: ι)(j:d h)(m:Sub (e h) E)(o:(g h).Le H)
  (step: ∀Ec,Ec=A3B E i→∀x,d x→wp P Z c (A6E Q (Nx (fun x=>cat Ec (e x)) g d μ x)) (cat Ec (e x)) (g x)):B5s P Z c Q E H:=C3R (fun x=>cat (A3B E i) (e x)) g d μ h j (B28 (A6I E i) m) o (step _ rfl)
theorem C4{ι :Type}{e: ι →Env}{g: ι →Heap}{d: ι →Prop}{μ : ι →Nat}{x: ι}{h:Env}{H':Heap}(y: ι)(h1:d y)(i: μ y< μ x)(j:Sub (e y) h)(m:(g y).Le H'):Nx e g d μ x h H':=⟨y,h1,i,A5a j.all m⟩
theorem B59{ι :Type}{e: ι →Env}{g: ι →Heap}{d: ι →Prop}{μ : ι →Nat}{x: ι}{h:Env}{H':Heap}(y: ι)(h1:d y)(i: μ y< μ x)(j:A1A (e y) (g y) h H'):Nx e g d μ x h H':=⟨y,h1,i,j⟩
def V5(l:List UInt8)(k:Nat):Int:=((l.getD k 0).toNat:Int)
theorem B29(s:ByteArray)(k:Nat):S3 s k=V5 (B s) k:=rfl
@[go_sem] theorem D0L(l:List UInt8)(i:Int):S3 (S l) i=V5 l i.toNat:=by
 show (((S l).data.toList.getD i.toNat 0).toNat:Int)=_;rw[show (S l).data.toList=l from y5 l];rfl
theorem B0F(s:ByteArray):S3 s 0=V5 (B s) 0:=rfl
attribute [irreducible] Fin B5s Nx
attribute [go_sem] W6 D2D List.map_nil Option.map_some Option.map_none D18 D1l D17 D2K D2L Bool.not_eq_true' Bool.not_eq_false' D1I decide_eq_false_iff_not true_and and_true List.drop_succ_cons List.drop_zero List.head?_cons List.take_succ_cons List.take_zero D01 D03 List.set_cons_zero List.set_cons_succ D1z List.all_nil Bool.and_true Bool.true_and List.getElem?_cons_zero D1S Nat.zero_add Nat.add_zero Int.toNat_natCast forall_const implies_true Option.isSome_some ne_eq not_true_eq_false not_false_eq_true D1G beq_iff_eq bne_iff_ne beq_eq_false_iff_ne Nat.le_add_left D2C beq_self_eq_true if_true if_false D1U D1e Int.toNat_natCast_add_one Option.map_map List.size_toArray D1N false_imp_iff true_imp_iff D02 D1w D1f decide_true decide_false List.replicate_succ List.replicate_zero D1V D1W List.append_eq Nat.min_self
end Go.Av
namespace Go.Proofs
open Go.Av
@[go_sem] theorem C52:A65 Tryz.prog 2=some .i64:=by kernel_rfl
@[go_sem] theorem C4j:C9 Tryz.prog 3= .int:=by kernel_rfl
@[go_sem] theorem C2Z:F9 Tryz.prog 3=some (false,1):=by kernel_rfl
@[go_sem] theorem C53:A65 Tryz.prog 3=some .i64:=by kernel_rfl
@[go_sem] theorem C4t:G2 Tryz.prog 3=some [.int .i64 0]:=by kernel_rfl
@[go_sem] theorem C5z:A1t Tryz.prog 3=none:=by kernel_rfl
@[go_sem] theorem C4k:C9 Tryz.prog 4= .bool:=by kernel_rfl
@[go_sem] theorem C2a:F9 Tryz.prog 4=some (false,1):=by kernel_rfl
@[go_sem] theorem C4u:G2 Tryz.prog 4=some [.bool false]:=by kernel_rfl
@[go_sem] theorem C4x:Go.Av.A5w Tryz.prog 4=some (.bool false):=by kernel_rfl
@[go_sem] theorem C50:A1t Tryz.prog 4=none:=by kernel_rfl
@[go_sem] theorem C2b:F9 Tryz.prog 5=some (false,1):=by kernel_rfl
@[go_sem] theorem C4v:G2 Tryz.prog 5=some [.int .u8 0]:=by kernel_rfl
@[go_sem] theorem C4l:C9 Tryz.prog 9= .str:=by kernel_rfl
@[go_sem] theorem C2c:F9 Tryz.prog 9=some (false,1):=by kernel_rfl
@[go_sem] theorem C4w:G2 Tryz.prog 9=some [.str ⟨#[]⟩]:=by kernel_rfl
@[go_sem] theorem C1M:F9 Tryz.prog 22=some (false,1):=by kernel_rfl
@[go_sem] theorem C2C:C9 Tryz.prog 23= .slice:=by kernel_rfl
@[go_sem] theorem C1N:F9 Tryz.prog 23=some (false,1):=by kernel_rfl
@[go_sem] theorem C2Q:H6 Tryz.prog 23=some (114,2,24):=by kernel_rfl
@[go_sem] theorem C2D:C9 Tryz.prog 25= .struct:=by kernel_rfl
@[go_sem] theorem C1O:F9 Tryz.prog 25=some (true,3):=by kernel_rfl
@[go_sem] theorem B8q:M1 Tryz.prog 25=some [(0,false,1),(1,false,1),(2,false,1)]:=by kernel_rfl
@[go_sem] theorem C2d:G2 Tryz.prog 25=some [.nilsl,.int .i64 0,.bool false]:=by kernel_rfl
@[go_sem] theorem C4m:A1t Tryz.prog 25=none:=by kernel_rfl
@[go_sem] theorem C2E:C9 Tryz.prog 26= .slice:=by kernel_rfl
@[go_sem] theorem C1P:F9 Tryz.prog 26=some (false,1):=by kernel_rfl
@[go_sem] theorem C2R:H6 Tryz.prog 26=some (28,7,96):=by kernel_rfl
@[go_sem] theorem C2e:G2 Tryz.prog 26=some [.nilsl]:=by kernel_rfl
@[go_sem] theorem C2F:C9 Tryz.prog 28= .struct:=by kernel_rfl
@[go_sem] theorem C1Q:F9 Tryz.prog 28=some (true,7):=by kernel_rfl
@[go_sem] theorem B8r:M1 Tryz.prog 28=some [(0,false,1),(1,false,1),(2,true,3),(5,false,1),(6,false,1)]:=by kernel_rfl
@[go_sem] theorem C2f:G2 Tryz.prog 28=some [.int .i64 0,.int .i64 0,.nilsl,.int .i64 0,.bool false,.str ⟨#[]⟩,.nilsl]:=by kernel_rfl
@[go_sem] theorem C4n:A1t Tryz.prog 28=none:=by kernel_rfl
@[go_sem] theorem C2G:C9 Tryz.prog 31= .slice:=by kernel_rfl
@[go_sem] theorem C1R:F9 Tryz.prog 31=some (false,1):=by kernel_rfl
@[go_sem] theorem C2S:H6 Tryz.prog 31=some (9,1,16):=by kernel_rfl
@[go_sem] theorem C2H:C9 Tryz.prog 40= .slice:=by kernel_rfl
@[go_sem] theorem C1S:F9 Tryz.prog 40=some (false,1):=by kernel_rfl
@[go_sem] theorem C2T:H6 Tryz.prog 40=some (71,2,24):=by kernel_rfl
@[go_sem] theorem C2I:C9 Tryz.prog 71= .struct:=by kernel_rfl
@[go_sem] theorem C1T:F9 Tryz.prog 71=some (true,2):=by kernel_rfl
@[go_sem] theorem B8s:M1 Tryz.prog 71=some [(0,false,1),(1,false,1)]:=by kernel_rfl
@[go_sem] theorem C51:A1P Tryz.prog 71=some [(0,.str),(1,.int)]:=by kernel_rfl
@[go_sem] theorem C2g:G2 Tryz.prog 71=some [.str ⟨#[]⟩,.int .i64 0]:=by kernel_rfl
@[go_sem] theorem C4o:A1t Tryz.prog 71=none:=by kernel_rfl
@[go_sem] theorem C2J:C9 Tryz.prog 72= .map:=by kernel_rfl
@[go_sem] theorem C1U:F9 Tryz.prog 72=some (false,1):=by kernel_rfl
@[go_sem] theorem C2h:G2 Tryz.prog 72=some [.nilmap]:=by kernel_rfl
@[go_sem] theorem C4s:A3T Tryz.prog 72=some (9,4,.one .str):=by kernel_rfl
@[go_sem] theorem C4p:A1t Tryz.prog 72=none:=by kernel_rfl
@[go_sem] theorem C2K:C9 Tryz.prog 91= .slice:=by kernel_rfl
@[go_sem] theorem C2U:H6 Tryz.prog 91=some (72,1,8):=by kernel_rfl
@[go_sem] theorem C2L:C9 Tryz.prog 95= .slice:=by kernel_rfl
@[go_sem] theorem C2V:H6 Tryz.prog 95=some (5,1,1):=by kernel_rfl
@[go_sem] theorem C2i:G2 Tryz.prog 97=some [.nilp,.nilsl]:=by kernel_rfl
@[go_sem] theorem C4q:A1t Tryz.prog 97=some 97:=by kernel_rfl
@[go_sem] theorem C01:C9 Tryz.prog 103= .struct:=by kernel_rfl
@[go_sem] theorem B8e:M1 Tryz.prog 103=some [(0,false,1),(1,false,1)]:=by kernel_rfl
@[go_sem] theorem C1V:G2 Tryz.prog 103=some [.str ⟨#[]⟩,.bool false]:=by kernel_rfl
@[go_sem] theorem C02:C9 Tryz.prog 110= .slice:=by kernel_rfl
@[go_sem] theorem B8t:F9 Tryz.prog 110=some (false,1):=by kernel_rfl
@[go_sem] theorem C1E:H6 Tryz.prog 110=some (25,3,40):=by kernel_rfl
@[go_sem] theorem C1W:G2 Tryz.prog 110=some [.nilsl]:=by kernel_rfl
@[go_sem] theorem C03:C9 Tryz.prog 114= .struct:=by kernel_rfl
@[go_sem] theorem B8u:F9 Tryz.prog 114=some (true,2):=by kernel_rfl
@[go_sem] theorem B8f:M1 Tryz.prog 114=some [(0,false,1),(1,false,1)]:=by kernel_rfl
@[go_sem] theorem C4r:A1P Tryz.prog 114=some [(0,.str),(1,.int)]:=by kernel_rfl
@[go_sem] theorem C1X:G2 Tryz.prog 114=some [.str ⟨#[]⟩,.int .i64 0]:=by kernel_rfl
@[go_sem] theorem C2M:A1t Tryz.prog 114=none:=by kernel_rfl
@[go_sem] theorem C04:C9 Tryz.prog 150= .struct:=by kernel_rfl
@[go_sem] theorem B8v:F9 Tryz.prog 150=some (true,2):=by kernel_rfl
@[go_sem] theorem B8g:M1 Tryz.prog 150=some [(0,false,1),(1,false,1)]:=by kernel_rfl
@[go_sem] theorem C1Y:G2 Tryz.prog 150=some [.nilsl,.nilmap]:=by kernel_rfl
@[go_sem] theorem C2N:A1t Tryz.prog 150=none:=by kernel_rfl
@[go_sem] theorem C2W:A65 Tryz.prog 163=some .u64:=by kernel_rfl
@[go_sem] theorem B8w:F9 Tryz.prog 194=some (false,1):=by kernel_rfl
@[go_sem] theorem C2X:A65 Tryz.prog 194=some .u32:=by kernel_rfl
@[go_sem] theorem C1Z:G2 Tryz.prog 194=some [.int .u32 0]:=by kernel_rfl
@[go_sem] theorem C2Y:A65 Tryz.prog 196=some .u64:=by kernel_rfl
@[go_sem] theorem C05:C9 Tryz.prog 208= .slice:=by kernel_rfl
@[go_sem] theorem C1F:H6 Tryz.prog 208=some (110,1,24):=by kernel_rfl
@[go_sem] theorem C06:C9 Tryz.prog 210= .slice:=by kernel_rfl
@[go_sem] theorem C1G:H6 Tryz.prog 210=some (26,1,24):=by kernel_rfl
@[go_sem] theorem C07:C9 Tryz.prog 216= .slice:=by kernel_rfl
@[go_sem] theorem B8x:F9 Tryz.prog 216=some (false,1):=by kernel_rfl
@[go_sem] theorem C1H:H6 Tryz.prog 216=some (246,4,64):=by kernel_rfl
@[go_sem] theorem C1a:G2 Tryz.prog 216=some [.nilsl]:=by kernel_rfl
@[go_sem] theorem C08:C9 Tryz.prog 219= .slice:=by kernel_rfl
@[go_sem] theorem C1I:H6 Tryz.prog 219=some (3,1,8):=by kernel_rfl
@[go_sem] theorem C09:C9 Tryz.prog 240= .slice:=by kernel_rfl
@[go_sem] theorem B8y:F9 Tryz.prog 240=some (false,1):=by kernel_rfl
@[go_sem] theorem C1J:H6 Tryz.prog 240=some (244,2,32):=by kernel_rfl
@[go_sem] theorem C1A:C9 Tryz.prog 242= .slice:=by kernel_rfl
@[go_sem] theorem B8z:F9 Tryz.prog 242=some (false,1):=by kernel_rfl
@[go_sem] theorem C1K:H6 Tryz.prog 242=some (194,1,4):=by kernel_rfl
@[go_sem] theorem C1B:C9 Tryz.prog 244= .struct:=by kernel_rfl
@[go_sem] theorem B80:F9 Tryz.prog 244=some (true,2):=by kernel_rfl
@[go_sem] theorem B8h:M1 Tryz.prog 244=some [(0,false,1),(1,false,1)]:=by kernel_rfl
@[go_sem] theorem C1b:G2 Tryz.prog 244=some [.bool false,.nilsl]:=by kernel_rfl
@[go_sem] theorem C2O:A1t Tryz.prog 244=none:=by kernel_rfl
@[go_sem] theorem C1C:C9 Tryz.prog 246= .struct:=by kernel_rfl
@[go_sem] theorem B81:F9 Tryz.prog 246=some (true,4):=by kernel_rfl
@[go_sem] theorem B8i:M1 Tryz.prog 246=some [(0,false,1),(1,true,2),(3,false,1)]:=by kernel_rfl
@[go_sem] theorem C1c:G2 Tryz.prog 246=some [.nilsl,.bool false,.nilsl,.bool false]:=by kernel_rfl
@[go_sem] theorem C2P:A1t Tryz.prog 246=none:=by kernel_rfl
@[go_sem] theorem C1D:C9 Tryz.prog 302= .slice:=by kernel_rfl
@[go_sem] theorem C1L:H6 Tryz.prog 302=some (216,1,24):=by kernel_rfl
theorem A8:Tryz.prog.follows .mixedOrders=true:=by kernel_rfl
end Go.Proofs
namespace Go.Av
section
variable {P:Program} {E:Env} {H:Heap} {K:Env→Heap→Prop} {l:List Oper} {KD:D→Heap→Prop} {ev:Operand→D} {cs:Nat→CR} {bs:Nat→Bl} {bl:Bl} {c:CR} {gs:List (Option Nat)}
def pK(P:Program)(gs:List (Option Nat))(cs:Nat→CR)(bs:Nat→Bl)(K:Env→Heap→Prop)(i:Nat)(l:List Oper)(dst:Option Nat)(E:Env):D→Heap→Prop:=fun d H=>wpP P gs cs bs K i l (E.put dst d) H
def pOp(P:Program)(c:CR)(bl:Bl)(ev:Operand→D)(H:Heap)(KD:D→Heap→Prop)(op:Op):Prop:=
 ∃e,u0 P c bl.l ev H op=some e∧A6A bl H e∧P1 P c bl.l ev H op∧∀b,e.okH b H→KD (e.val b) (e.app b H)
def A0v(P:Program)(gs:List (Option Nat))(cs:Nat→CR)(bs:Nat→Bl)(K:Env→Heap→Prop)(i:Nat)(l:List Oper)(dst:Option Nat)(op:Op)(s:Nat)(d:D)(want:Bool)(E:Env)(H:Heap):Prop:=
 (d= .tuple []∧wpP P gs cs bs K (i+1) l (E.put dst (.tuple [])) H)∨
 ∃b,d= .bool b∧(b=want→pOp P (cs i) (bs i) (Env.ev ((s,.bool want)::E)) H (pK P gs cs bs K (i+1) l dst ((s,.bool want)::E)) op)∧(b= !want→wpP P gs cs bs K (i+1) l (Env.put ((s,.bool (!want))::E) dst (.tuple [])) H)
def A8d(P:Program)(gs:List (Option Nat))(cs:Nat→CR)(bs:Nat→Bl)(K:Env→Heap→Prop)(i:Nat)(l:List Oper)(dst:Option Nat)(op:Op)(s:Option Nat)(want:Bool)(E:Env)(H:Heap):Prop:=match s with
 |none=>wpP P gs cs bs K (i+1) l (E.put dst (.tuple [])) H
 |some s=>A0v P gs cs bs K i l dst op s (E.get s) want E H
@[go_sem] theorem D0M(i:Nat):wpP P gs cs bs K i [] E H=K E H:=rfl
@[go_sem] theorem C9B(i:Nat)(dst:Option Nat)(op:Op)(ty:Nat)(pos:String)(after:Array Edge):wpP P gs cs bs K i (⟨dst,op,ty,pos,after,none⟩::l) E H=pOp P (cs i) (bs i) (Env.ev E) H (pK P gs cs bs K (i+1) l dst E) op:=rfl
@[go_sem] theorem C8F(i:Nat)(dst:Option Nat)(op:Op)(ty:Nat)(pos:String)(after:Array Edge)(j:Nat)(d:Bool):
  wpP P gs cs bs K i (⟨dst,op,ty,pos,after,some (j,d)⟩::l) E H=A8d P gs cs bs K i l dst op (I2 gs j) d E H:=by
 rw[wpP];simp only[];unfold A14 A8d;cases I2 gs j<;>rfl
@[go_sem] theorem B9S(i:Nat)(dst:Option Nat)(op:Op)(s:Nat)(d:Bool):A8d P gs cs bs K i l dst op (some s) d E H=A0v P gs cs bs K i l dst op s (E.get s) d E H:=rfl
theorem l6(i:Nat)(dst:Option Nat)(op:Op)(s:Nat)(b d:Bool):A0v P gs cs bs K i l dst op s (.bool b) d E H=
  ((b=d→pOp P (cs i) (bs i) (Env.ev ((s,.bool d)::E)) H (pK P gs cs bs K (i+1) l dst ((s,.bool d)::E)) op)∧(b= !d→wpP P gs cs bs K (i+1) l (Env.put ((s,.bool (!d))::E) dst (.tuple [])) H)):=by
 unfold A0v;apply propext;constructor
 ·rintro(⟨h,_⟩|⟨e,h,h1⟩)
  ·cases h
  ·cases h;exact h1
 ·exact fun h=>.inr ⟨b,rfl,h⟩
attribute [go_sem low] l6
@[go_sem high] theorem C1x(i:Nat)(dst:Option Nat)(op:Op)(s:Nat)(d:Bool):A0v P gs cs bs K i l dst op s (.tuple []) d E H=wpP P gs cs bs K (i+1) l (E.put dst (.tuple [])) H:=by
 unfold A0v;apply propext;constructor
 ·rintro(⟨_,h⟩|⟨e,h,_⟩)
  ·exact h
  ·cases h
 ·exact fun h=>.inl ⟨rfl,h⟩
@[go_sem high] theorem C5q(i:Nat)(dst:Option Nat)(op:Op)(s:Nat):A0v P gs cs bs K i l dst op s (.bool true) true E H=pOp P (cs i) (bs i) (Env.ev ((s,.bool true)::E)) H (pK P gs cs bs K (i+1) l dst ((s,.bool true)::E)) op:=by rw[l6];simp
@[go_sem high] theorem C5r(i:Nat)(dst:Option Nat)(op:Op)(s:Nat):A0v P gs cs bs K i l dst op s (.bool false) false E H=pOp P (cs i) (bs i) (Env.ev ((s,.bool false)::E)) H (pK P gs cs bs K (i+1) l dst ((s,.bool false)::E)) op:=by rw[l6];simp
@[go_sem high] theorem C5s(i:Nat)(dst:Option Nat)(op:Op)(s:Nat):A0v P gs cs bs K i l dst op s (.bool true) false E H=wpP P gs cs bs K (i+1) l (Env.put ((s,.bool true)::E) dst (.tuple [])) H:=by rw[l6];simp
@[go_sem high] theorem C5t(i:Nat)(dst:Option Nat)(op:Op)(s:Nat):A0v P gs cs bs K i l dst op s (.bool false) true E H=wpP P gs cs bs K (i+1) l (Env.put ((s,.bool false)::E) dst (.tuple [])) H:=by rw[l6];simp
@[go_sem] theorem C9C(i:Nat)(dst:Option Nat)(d:D):pK P gs cs bs K i l dst E d H=wpP P gs cs bs K i l (E.put dst d) H:=rfl
theorem A0J{op:Op}(hc:J0 P op= .pure)(hw:D3 P ev H KD op=S4 (L5 P ev op) KD H):pOp P c bl ev H KD op=D3 P ev H KD op:=by
 rw[hw];apply propext;unfold pOp;rw[U6 hc];constructor
 ·rintro⟨e,he,_,_,hk⟩;obtain⟨d,g,rfl⟩:=D05.1 he;have:=hk 0 trivial;refine⟨d,g,?_⟩;have e2:(val d []).app 0 H=H:=F7 H;rw[e2]at this;exact this
 ·rintro⟨d,g,hk⟩;refine⟨val d [],by rw[g];rfl,⟨by simp[val],by simp[val],by simp[val],by simp[val]⟩,?_,fun b _=>?_⟩
  ·cases op<;>try trivial
   rename_i h;obtain⟨callee,args,i⟩:=h;cases callee with
   |value f=>simp[J0]at hc
   |_=>trivial
  ·have e2:(val d []).app b H=H:=F7 H;rw[e2];exact hk
@[go_sem] theorem C9D(x:Operand):pOp P c bl ev H KD (.move x)=D3 P ev H KD (.move x):=A0J rfl rfl
@[go_sem] theorem C62(x:Operand):pOp P c bl ev H KD (.assign x)=D3 P ev H KD (.assign x):=A0J rfl rfl
@[go_sem] theorem C9E(x y z:Operand):pOp P c bl ev H KD (.pick x y z)=D3 P ev H KD (.pick x y z):=A0J rfl rfl
@[go_sem] theorem C8G(t:Nat)(ps:Array (Nat×Operand)):pOp P c bl ev H KD (.build t ps)=D3 P ev H KD (.build t ps):=A0J rfl rfl
@[go_sem] theorem C8H(x:Operand):pOp P c bl ev H KD (.nilCheck x)=D3 P ev H KD (.nilCheck x):=A0J rfl rfl
@[go_sem] theorem D0N(op:BinOp)(t:Nat)(x y:Operand)(d:Nat):pOp P c bl ev H KD (.binOp op t x y d)=D3 P ev H KD (.binOp op t x y d):=A0J rfl rfl
@[go_sem] theorem D0h(op:UnOp)(t:Nat)(x:Operand):pOp P c bl ev H KD (.unOp op t x)=D3 P ev H KD (.unOp op t x):=A0J rfl rfl
@[go_sem] theorem D0i(t:Nat)(x:Operand)(f:Nat):pOp P c bl ev H KD (.fieldAddr t x f)=D3 P ev H KD (.fieldAddr t x f):=A0J rfl rfl
@[go_sem] theorem D0j(t:Nat)(x i:Operand):pOp P c bl ev H KD (.indexAddr t x i)=D3 P ev H KD (.indexAddr t x i):=A0J rfl rfl
@[go_sem] theorem C8I(t:Nat)(x:Operand)(lo d e:Option Operand):pOp P c bl ev H KD (.slice t x lo d e)=D3 P ev H KD (.slice t x lo d e):=A0J rfl rfl
@[go_sem] theorem D0O(x:Operand)(t:Nat)(h:C9 P t≠ .map):pOp P c bl ev H KD (.call ⟨.builtin .len,#[x],#[t]⟩)=D3 P ev H KD (.call ⟨.builtin .len,#[x],#[t]⟩):=by
 have hc:J0 P (.call ⟨.builtin .len,#[x],#[t]⟩)= .pure:=by
  unfold C9 at h;cases d:P.underlying t with
  |none=>simp[J0,d]
  |some u=>cases u<;>simp[J0,d]<;>simp[d]at h
 refine A0J hc ?_;simp only[D3,hc];rfl
def B6A(bl:Bl)(H:Heap)(l:List Nat):Prop:=∀b∈l,(b∈bl.l∧H b≠none)∧b∉bl.no
@[go_sem] theorem C63:B6A bl H []=True:=by simp[B6A]
@[go_sem high] theorem C64(l m:List Nat)(b:Nat):B6A ⟨l,[],m⟩ H [b]=(b∈l∧H b≠none):=by simp[B6A]
@[go_sem] theorem C8J(b o:Nat):rdB (.box b o)= [b]:=rfl
@[go_sem] theorem C9F(b s i o:Nat):rdB (.el b s i o)= [b]:=rfl
@[go_sem] theorem C9G(cs:List D):rdB (.ro cs)= []:=rfl
@[go_sem] theorem C9H(t:Nat)(x:Operand):pOp P c bl ev H KD (.load t x)=(B6A bl H (rdB (ev x))∧D3 P ev H KD (.load t x)):=by
 apply propext;unfold pOp;constructor
 ·rintro⟨e,he,g,_,hk⟩;rw[I5 (by simp[J0])]at he;simp only[I4,D05]at he;obtain⟨d,h,rfl⟩:=he;have:=hk 0 trivial;have e2:(val d (rdB (ev x))).app 0 H=H:=F7 H;rw[e2]at this;exact⟨g.rd,d,h,this⟩
 ·rintro⟨hr,d,h,hk⟩;refine⟨val d (rdB (ev x)),by rw[I5 (by simp[J0])];simp only[I4,h,Option.map_some],⟨hr,by simp[val],by simp[val],by simp[val]⟩,trivial,fun b _=>?_⟩;have e2:(val d (rdB (ev x))).app b H=H:=F7 H;rw[e2];exact hk
theorem B11{op:Op}{f:Nat→D}{o:Obj}(ho:o.rw=true)(hr:u0 P c bl.l ev H op=some (A06 f o))(hc:P1 P c bl.l ev H op)(h: ∀b,H b=none→KD (f b) (H.set b o)):pOp P c bl ev H KD op:=
 ⟨_,hr,⟨by simp[A06],by simp[A06],fun o' e=>by cases e;exact ho,by simp[A06]⟩,hc,fun b hb=>by
  have d:H b=none:=by rcases hb with hb|hb;exact hb;simp[A06]at hb
  have e2:(A06 f o).app b H=H.set b o:=by show (H.minus []).set b o=_;rw[F7]
  rw[e2];exact h b d⟩
theorem A3D{op:Op}{f:Nat→D}{o:Obj}(hr:u0 P c bl.l ev H op=some (A06 f o))(h:pOp P c bl ev H KD op): ∀b,H b=none→KD (f b) (H.set b o):=by
 obtain⟨e,he,d,_,hk⟩:=h;rw[hr]at he;cases he;intro b hb;have:=hk b (.inl hb);have e2:(A06 f o).app b H=H.set b o:=by show (H.minus []).set b o=_;rw[F7]
 rw[e2]at this;exact this
@[go_sem] theorem C8K(t:Nat):pOp P c bl ev H KD (.alloc t)=D3 P ev H KD (.alloc t):=by
 apply propext;constructor
 ·intro h;have g:=h;obtain⟨e,he,_⟩:=g;rw[I5 (by simp[J0])]at he;simp only[I4,D05]at he;obtain⟨z,d,rfl⟩:=he;exact⟨z,d,A3D (f:=fun b=>.box b 0) (o:=.box z (A1t P t)) (by rw[I5 (by simp[J0])];simp only[I4,d,Option.map_some]) h⟩
 ·rintro⟨z,d,hk⟩;exact B11 (f:=fun b=>.box b 0) (o:=.box z (A1t P t)) rfl (by rw[I5 (by simp[J0])];simp only[I4,d,Option.map_some]) trivial hk
@[go_sem] theorem B9T(t n:Nat)(ps:Array (Nat×Operand)):pOp P c bl ev H KD (.buildSlice t n ps)=D3 P ev H KD (.buildSlice t n ps):=by
 apply propext;constructor
 ·intro h;have q:=h;obtain⟨e,he,_⟩:=q;rw[I5 (by simp[J0])]at he;simp only[I4,bsE]at he;obtain⟨⟨e',sz,g⟩,i,he⟩:=D08.1 he;split at he
  ·rename_i h1;obtain⟨z,j,he⟩:=D08.1 he;split at he
   ·rename_i m;obtain⟨es,d,rfl⟩:=D05.1 he;exact⟨e',sz,g,z,es,i,h1.1,h1.2,j,m,d,A3D (f:=fun b=>.vec b sz 0 n) (o:=.vec sz es) (by rw[I5 (by simp[J0])];simp only[I4,bsE,i,D1Q];rw[if_pos h1,j,D1Q,if_pos m];simp only[d,Option.map_some]) h⟩
   ·cases he
  ·cases he
 ·rintro⟨e',sz,g,z,es,i,h1,p,j,m,d,hk⟩;exact B11 (f:=fun b=>.vec b sz 0 n) (o:=.vec sz es) rfl (by rw[I5 (by simp[J0])];simp only[I4,bsE,i,D1Q];rw[if_pos ⟨h1,p⟩,j,D1Q,if_pos m];simp only[d,Option.map_some]) trivial hk
@[go_sem] theorem C1y(t:Nat)(l c':Operand):pOp P c bl ev H KD (.makeSlice t l c')=D3 P ev H KD (.makeSlice t l c'):=by
 apply propext;constructor
 ·intro h;have A:=h;obtain⟨e,he,_⟩:=A;rw[I5 (by simp[J0])]at he;simp only[I4]at he;obtain⟨e',sz,g,z,k,n,y,m,h1,i,j,p,h5,q,r,u,x,d,rfl⟩:=A5X he;exact⟨e',sz,g,z,k,n,y,m,h1,i,j,p,h5,q,r,u,x,d,A3D (f:=fun b=>.vec b sz 0 n.toNat) (o:=.vec sz (List.replicate n.toNat z)) (by rw[I5 (by simp[J0])];exact he) h⟩
 ·rintro⟨e',sz,g,z,k,n,y,m,h1,i,j,p,h5,q,r,u,x,d,hk⟩;exact B11 (f:=fun b=>.vec b sz 0 n.toNat) (o:=.vec sz (List.replicate n.toNat z)) rfl (by rw[I5 (by simp[J0])];simp only[I4];rw[h5,q];exact C2n h1 i j p r u x d) trivial hk
def C3T:D→Prop
 | .box _ _| .el _ _ _ _=>True
 |_=>False
@[go_sem] theorem C65(b o:Nat):C3T (.box b o)=True:=rfl
@[go_sem] theorem C8L(b s i o:Nat):C3T (.el b s i o)=True:=rfl
@[go_sem] theorem C8M(t:Nat)(a x:Operand):pOp P c bl ev H KD (.store t a x)=(C3T (ev a)∧D3 P ev H KD (.store t a x)):=by
 apply propext;have g:u0 P c bl.l ev H (.store t a x)=t8 P t (ev a) (ev x) H:=by rw[I5 (by simp[J0])];rfl
 constructor
 ·rintro⟨e,he,y,_,hk⟩;rw[g]at he;unfold t8 at he;obtain⟨p,hs,he⟩:=D08.1 he;have fin: ∀b,rdB (ev a)= [b]→(p b).map (fun o=>(⟨[],[b],some o,some b,fun _=>.undef⟩:Ef))=some e→D3 P ev H KD (.store t a x):=by
   intro b hb h1;obtain⟨o,ho,rfl⟩:=D05.1 h1;obtain⟨o',q,_,j,_⟩:=A08 hs hb;rw[ho]at q;cases q;have:=hk b rfl;have e2:((⟨[],[b],some o,some b,fun _=>.undef⟩:Ef)).app b H=p:=by show (H.minus [b]).set b o=_;rw[j0,j]
   rw[e2]at this;exact⟨p,hs,this⟩
  cases d:ev a with
  |box b off=>rw[d]at he;exact⟨trivial,fin b (by rw[d];rfl) he⟩
  |el b s i off=>rw[d]at he;exact⟨trivial,fin b (by rw[d];rfl) he⟩
  |_=>rw[d]at he;simp at he
 ·rintro⟨h1,p,hs,hk⟩;have fin: ∀b,rdB (ev a)= [b]→t8 P t (ev a) (ev x) H=(p b).map (fun o=>(⟨[],[b],some o,some b,fun _=>.undef⟩:Ef))→pOp P c bl ev H KD (.store t a x):=by
   intro b hb hst;obtain⟨o,ho,u,j,r⟩:=A08 hs hb;rw[ho,Option.map_some]at hst;refine⟨_,g.trans hst,⟨by simp,fun k hk=>?_,fun o' z=>by cases z;exact u,fun k hk=>by cases hk;simp⟩,trivial,fun k m=>?_⟩
   ·simp at hk;subst hk;exact⟨(fun h=>absurd h (by simp)),r⟩
   ·have m:k=b:=m;subst m;show KD .undef ((H.minus [k]).set k o);rw[j0,←j];exact hk
  cases d:ev a with
  |box b off=>exact fin b (by rw[d];rfl) (by rw[d]at hs⊢;simp only[t8,hs,D1Q])
  |el b s i off=>exact fin b (by rw[d];rfl) (by rw[d]at hs⊢;simp only[t8,hs,D1Q])
  |_=>rw[d]at h1;exact h1.elim
def xOk(bl:Bl)(H:Heap)(l:List Nat):Prop:=(∀b∈inB bl.l l,H b≠none∧b∉bl.no)∧∀b∈T0 bl.l l,B1n (H b)=true
def C3U(bl:Bl)(b:Nat):Prop:=b∉bl.l∨b∈bl.may
def paV(o:Option Obj)(bl:Bl)(xl:List Nat)(b sz n by_:Nat)(xs:List (List D))(H:Heap)(KD:D→Heap→Prop):Prop:=match o with
 |some (.vec sz' es)=>sz'=sz∧n≤es.length∧(n+xs.length)*by_≤140737488355328∧n+xs.length≤9223372036854775807∧C3U bl b∧xOk bl H xl∧
   ∀b',(H b'=none∨b'∈b::T0 bl.l xl)→KD (.vec b' sz 0 (n+xs.length)) ((H.minus (b::T0 bl.l xl)).set b' (.vec sz (es.take n++xs)))
 |_=>False
@[go_sem] theorem B3A(bl:Bl)(e:List Nat)(b sz sz' n d:Nat)(es xs:List (List D)):paV (some (.vec sz' es)) bl e b sz n d xs H KD=(sz'=sz∧n≤es.length∧(n+xs.length)*d≤140737488355328∧n+xs.length≤9223372036854775807∧C3U bl b∧xOk bl H e∧
      ∀g,(H g=none∨g∈b::T0 bl.l e)→KD (.vec g sz 0 (n+xs.length)) ((H.minus (b::T0 bl.l e)).set g (.vec sz (es.take n++xs)))):=rfl
def paS(s:D)(bl:Bl)(xl:List Nat)(sz by_:Nat)(xs:List (List D))(H:Heap)(KD:D→Heap→Prop):Prop:=match s with
 | .nilsl=>xs.length*by_≤140737488355328∧xs.length≤9223372036854775807∧xs.isEmpty=false∧xOk bl H xl∧∀b,(H b=none∨b∈T0 bl.l xl)→KD (.vec b sz 0 xs.length) ((H.minus (T0 bl.l xl)).set b (.vec sz xs))
 | .vec b sz' lo n=>sz'=sz∧lo=0∧paV (H b) bl xl b sz n by_ xs H KD
 |_=>False
@[go_sem] theorem B9U(bl:Bl)(e:List Nat)(sz d:Nat)(xs:List (List D)):paS .nilsl bl e sz d xs H KD=(xs.length*d≤140737488355328∧xs.length≤9223372036854775807∧xs.isEmpty=false∧xOk bl H e∧∀b,(H b=none∨b∈T0 bl.l e)→KD (.vec b sz 0 xs.length) ((H.minus (T0 bl.l e)).set b (.vec sz xs))):=rfl
@[go_sem] theorem B3B(bl:Bl)(e:List Nat)(b sz sz' lo n d:Nat)(xs:List (List D)):paS (.vec b sz' lo n) bl e sz d xs H KD=(sz'=sz∧lo=0∧paV (H b) bl e b sz n d xs H KD):=rfl
def paX(o:Option (List (List D)))(s x:D)(bl:Bl)(sz by_:Nat)(H:Heap)(KD:D→Heap→Prop):Prop:=match o with
 |some xs=>paS s bl (S9 x) sz by_ xs H KD
 |none=>False
@[go_sem] theorem B0G(xs:List (List D))(s x:D)(sz d:Nat):paX (some xs) s x bl sz d H KD=paS s bl (S9 x) sz d xs H KD:=rfl
def paK(P:Program)(et:Option (Nat×Nat×Nat))(bt:R7)(s x:D)(bl:Bl)(H:Heap)(KD:D→Heap→Prop):Prop:=match et with
 |some (e,sz,by_)=>0<sz∧apT bt∧apZ (G2 P e) sz∧paX (M7 H sz x) s x bl sz by_ H KD
 |none=>False
@[go_sem] theorem B0H(e sz d:Nat)(g:R7)(s x:D):paK P (some (e,sz,d)) g s x bl H KD=(0<sz∧apT g∧apZ (G2 P e) sz∧paX (M7 H sz x) s x bl sz d H KD):=rfl
@[go_sem] theorem C67(b sz lo n:Nat):S9 (.vec b sz lo n)= [b]:=rfl
@[go_sem] theorem C8O(sz:Nat)(es:List (List D)):S9 (.sl sz es)= []:=rfl
@[go_sem] theorem C68(s:ByteArray):S9 (.str s)= []:=rfl
@[go_sem] theorem C69(k:IntKind)(n:Int):S9 (.int k n)= []:=rfl
@[go_sem] theorem C5u(b:Bool):S9 (.bool b)= []:=rfl
@[go_sem] theorem C7A(cs:List D):S9 (.agg cs)= []:=rfl
@[go_sem] theorem C7B(b o:Nat):S9 (.box b o)= [b]:=rfl
@[go_sem] theorem W7(bl:List Nat):T0 bl []= []:=rfl
theorem B0I{bl:List Nat}(b:Nat)(l:List Nat)(h:b∉bl):T0 bl (b::l)=b::T0 bl l:=by simp[T0,h]
theorem B9V{bl:List Nat}(b:Nat)(l:List Nat)(h:b∈bl):T0 bl (b::l)=T0 bl l:=by simp[T0,h]
@[go_sem] theorem A8e:xOk bl H []=True:=by simp[xOk,inB,T0]
theorem B3C(b:Nat)(o:Obj)(hb:H b=some o)(hr:o.rw=true)(e:b∉bl.l∨b∉bl.no):xOk bl H [b]:=by
 refine⟨fun k hk=>?_,fun k hk=>?_⟩
 ·have d:=u7.1 hk;have:=d.1;simp at this;subst this;exact⟨by rw[hb];simp,e.resolve_left fun g=>g d.2⟩
 ·have:=(T1.1 hk).1;simp at this;subst this;rw[hb];exact hr
theorem A0K(b:Nat)(l:List Nat):H.minus (b::l)=(H.del b).minus l:=by
 funext k;unfold Heap.minus Heap.del
 by_cases h1:k=b<;>by_cases d:k∈l<;>simp[h1,d]
theorem A42{s x:Operand}{t p:Nat}(h:paK P (H6 P t) (C9 P p) (ev s) (ev x) bl H KD):pOp P c bl ev H KD (.call ⟨.builtin .append,#[s,x],#[t,p]⟩):=by
 have j:u0 P c bl.l ev H (.call ⟨.builtin .append,#[s,x],#[t,p]⟩)=B1o P bl.l H t p (ev s) (ev x):=by rw[I5 (by simp[J0])];rfl
 unfold paK at h;split at h
 ·rename_i e sz T U;obtain⟨h1,V,q,i⟩:=h;have u:(G2 P e).map (·.length)=some sz:=by
   unfold apZ at q;split at q
   ·rename_i z W;rw[W];simp[q]
   ·exact q.elim
  unfold paX at i;split at i
  ·rename_i xs y;have d:=j;unfold B1o at d;rw[U,D1Q,if_pos ⟨h1,V,u⟩,y,D1Q]at d;have m: ∀(del:List Nat) (new:Option Obj) (f:Nat→D),xOk bl H (S9 (ev x))→(∀b∈del,C3U bl b∧B1n (H b)=true)→(∀o,new=some o→o.rw=true)→A6A bl H ⟨inB bl.l (S9 (ev x)),del,new,none,f⟩:=fun del new f hx L hn=>
    ⟨fun b hb=>⟨⟨(u7.1 hb).2,(hx.1 b hb).1⟩,(hx.1 b hb).2⟩,fun b hb=>⟨fun _=>(L b hb).1,(L b hb).2⟩,hn,fun b hb=>by cases hb⟩
   unfold paS at i;split at i
   ·rename_i hs;obtain⟨A,C,G,r,I⟩:=i;rw[hs]at d;simp only at d;rw[if_pos ⟨A,C,G⟩]at d;exact⟨_,d,m _ _ _ r (fun b hb=>⟨.inl (T1.1 hb).2,r.2 b hb⟩) (fun o ho=>by cases ho;rfl),trivial,fun b hb=>I b hb⟩
   ·rename_i b sz' lo n hs;obtain⟨A,C,h5⟩:=i;unfold paV at h5;split at h5
    ·rename_i M es hb;obtain⟨G,r,I,X,Y,O,k9⟩:=h5;rw[hs]at d;simp only[hb]at d;rw[if_pos ⟨A,G,C,r,I,X⟩]at d;refine⟨_,d,m _ _ _ O (fun J g=>?_) (fun o ho=>by cases ho;rfl),trivial,fun J g=>k9 J g⟩;rcases D1O.1 g with rfl|g
     ·exact⟨Y,by rw[hb];rfl⟩
     ·exact⟨.inl (T1.1 g).2,O.2 J g⟩
    ·exact h5.elim
   ·exact i.elim
  ·exact i.elim
 ·exact h.elim
def A66:List D→List Nat:=fun l=>l.flatMap S9
@[go_sem] theorem C7C:A66 []= []:=rfl
theorem B4V(d:D)(l:List D):A66 (d::l)=S9 d++A66 l:=by simp[A66]
attribute [go_sem] B4V
def crK(c:CR)(H:Heap)(l:List Nat)(KD:D→Heap→Prop):Prop:=match c.new with
 |none=>KD (c.val 0) (H.minus l)
 |some o=>o.rw=true∧∀b,(H b=none∨b∈l)→KD (c.val b) ((H.minus l).set b o)
def pcA(P:Program)(c:CR)(bl:Bl)(f:D)(args:List D)(H:Heap)(KD:D→Heap→Prop):Prop:=match f with
 | .fn (.func g) first cap=>(∀b∈inB bl.l (A66 (first++args++cap)),H b≠none∧b∉bl.no)∧(∀b∈T0 bl.l (A66 (first++args++cap)),B1n (H b)=true)∧
   B5j P g (first++args++cap) H (A66 (first++args++cap)) (T0 bl.l (A66 (first++args++cap))) c∧crK c H (T0 bl.l (A66 (first++args++cap))) KD
 |_=>False
def pcB(P:Program)(c:CR)(bl:Bl)(g:Nat)(as_:List D)(l:List Nat)(H:Heap)(KD:D→Heap→Prop):Prop:=xOk bl H l∧B5j P g as_ H l (T0 bl.l l) c∧crK c H (T0 bl.l l) KD
@[go_sem] theorem C9J(g:Nat)(first args cap:List D):pcA P c bl (.fn (.func g) first cap) args H KD=pcB P c bl g (first++args++cap) (A66 (first++args++cap)) H KD:=by
 unfold pcA pcB xOk;simp only[and_assoc]
@[go_sem] theorem C9K(f:Operand)(args:List Operand)(m:Array Nat):pOp P c bl ev H KD (.call ⟨.value f,args.toArray,m⟩)=pcA P c bl (ev f) (args.map ev) H KD:=by
 have i:u0 P c bl.l ev H (.call ⟨.value f,args.toArray,m⟩)=I4 P c bl.l ev H (.call ⟨.value f,args.toArray,m⟩):=I5 (by simp[J0]);apply propext;unfold pcA;constructor
 ·rintro⟨e,he,d,hc,hk⟩;rw[i]at he;simp only[I4]at he;simp only[P1]at hc;split at he
  ·rename_i g first cap hf
   cases he
   (first|rw[hf]at hc⊢ |rw[hf]at hc)
   refine⟨fun b hb=>⟨(d.rd b hb).1.2,(d.rd b hb).2⟩,fun b hb=>(d.del b hb).2,hc,?_⟩;unfold crK;unfold Ef.okH Ef.app at hk;cases hn:c.new with
   |none=>simp only[hn,CR.f]at hk⊢;exact hk 0 trivial
   |some o=>
    simp only[hn,CR.f]at hk⊢;exact⟨d.new o hn,fun b hb=>hk b hb⟩
  ·cases he
 ·intro h;split at h
  ·rename_i g first cap hf
   obtain⟨h1,p,q,j⟩:=h;refine⟨⟨inB bl.l ((first++args.map ev++cap).flatMap S9),T0 bl.l ((first++args.map ev++cap).flatMap S9),c.new,none,c.f⟩,?_,⟨fun b hb=>⟨⟨(u7.1 hb).2,(h1 b hb).1⟩,(h1 b hb).2⟩,fun b hb=>⟨fun _=>.inl (T1.1 hb).2,p b hb⟩,fun o ho=>?_,by simp⟩,?_,fun b hb=>?_⟩
   ·rw[i];simp only[I4,hf]
   ·unfold crK at j;simp only at ho;rw[ho]at j;exact j.1
   ·simp only[P1,hf];exact q
   ·unfold crK at j;unfold Ef.okH at hb;unfold Ef.app;cases hn:c.new with
    |none=>simp only[hn,CR.f]at j⊢;exact j
    |some o=>
     simp only[hn,CR.f]at j hb⊢;exact j.2 b hb
  ·exact h.elim
theorem P8{g:Nat}{d:List D}{c:D}(h: ∀(H':Heap) (Q:D→Heap→Prop),(∀k cs,H k=some (.ro cs)→H' k=some (.ro cs))→Q c H'→ACalls P g d H' Q)(hk:KD c H):pcB P (.c c) bl g d [] H KD:=
 ⟨by rw[A8e];trivial,fun H' hro _=>h H' _ hro ⟨rfl,by rw[W7,F7];exact D2N H'⟩,by rw[W7];show KD c (H.minus []);rw[F7];exact hk⟩
theorem pc1{g b:Nat}{d:List D}{c:D}{o:Obj}(hb:H b=some o)(hr:o.rw=true)(hn:b∉bl.l)(h: ∀(H':Heap) (Q:D→Heap→Prop),(∀k cs,H k=some (.ro cs)→H' k=some (.ro cs))→H' b=some o→Q c (H'.del b)→ACalls P g d H' Q)(hk:KD c (H.del b)):pcB P (.c c) bl g d [b] H KD:=by
 have e:T0 bl.l [b]= [b]:=by rw[B0I b [] hn,W7]
 have e2: ∀H:Heap,H.minus [b]=H.del b:=fun H=>by rw[A0K,F7]
 exact⟨B3C b o hb hr (.inl hn),fun H' hro i=>h H' _ hro (by rw[i b (by simp),hb]) ⟨rfl,by rw[e,e2];exact D2N _⟩,by rw[e];show KD c (H.minus [b]);rw[e2];exact hk⟩
theorem pcm{g:Nat}{d:List D}{f:Nat→D}{o:Obj}(ho:o.rw=true)(h: ∀(H':Heap) (Q:D→Heap→Prop),(∀k cs,H k=some (.ro cs)→H' k=some (.ro cs))→(∀b,H' b=none→Q (f b) (H'.set b o))→ACalls P g d H' Q)(hk: ∀b,H b=none→KD (f b) (H.set b o)):pcB P (.mk' f o) bl g d [] H KD:=by
 refine⟨by rw[A8e];trivial,fun H' hro _=>h H' _ hro fun b hb=>?_,?_⟩
 ·exact⟨b,.inl hb,rfl,by rw[W7,F7];exact D2N _⟩
 ·rw[W7];refine⟨ho,fun b hb=>?_⟩;rw[F7];exact hk b (hb.resolve_right (by simp))
theorem C3W{bl:List Nat}(b:Nat)(h:b∈bl):inB bl [b]= [b]:=by simp[inB,h]
theorem C9L{g b:Nat}{d:List D}{f:Nat→D}{o o':Obj}(hb:H b=some o)(hl:b∈bl.l)(hn:b∉bl.no)(ho:o'.rw=true)(h: ∀(H':Heap) (Q:D→Heap→Prop),(∀k cs,H k=some (.ro cs)→H' k=some (.ro cs))→H' b=some o→(∀v,H' v=none→Q (f v) (H'.set v o'))→ACalls P g d H' Q)(hk: ∀v,H v=none→KD (f v) (H.set v o')):pcB P (.mk' f o') bl g d [b] H KD:=by
 have e:T0 bl.l [b]= []:=by rw[B9V b [] hl,W7]
 refine⟨⟨fun k hk=>?_,fun k hk=>?_⟩,fun H' hro i=>h H' _ hro (by rw[i b (by simp),hb]) fun v hv=>?_,?_⟩
 ·rw[C3W b hl]at hk;simp at hk;subst hk;exact⟨by rw[hb];simp,hn⟩
 ·rw[e]at hk;cases hk
 ·exact⟨v,.inl hv,rfl,by rw[e,F7];exact D2N _⟩
 ·rw[e];refine⟨ho,fun v hv=>?_⟩;rw[F7];exact hk v (hv.resolve_right (by simp))
end
def J3(sz n:Nat):Option Nat→D
 |none=>.nilsl
 |some c=>.vec c sz 0 n
def K2(H:Heap):Option Nat→Heap
 |none=>H
 |some c=>H.del c
def putB(H:Heap)(sz:Nat)(es:List (List D)):Option Nat→Heap
 |none=>H
 |some c=>H.set c (.vec sz es)
def OutAt(H:Heap)(sz:Nat)(es:List (List D)):Option Nat→Prop
 |none=>es= []
 |some c=>H c=some (.vec sz es)
theorem E8{H:Heap}{b:Nat}{o:Obj}(h:H b=none):(H.set b o).del b=H:=by
 funext k
 unfold Heap.del Heap.set;by_cases hk:k=b
 ·subst hk;simp[h]
 ·simp[hk]
theorem B9W(H:Heap)(ob:Option Nat):(K2 H ob).Le H:=by
 cases ob with
 |none=>exact D2N H
 |some c=>exact F0 H c
@[go_sem] theorem C5v(sz n:Nat)(ob:Option Nat):(J3 sz n ob).cells= [J3 sz n ob]:=by cases ob<;>rfl
@[go_sem] theorem C7E(sz n:Nat):J3 sz n none= .nilsl:=rfl
@[go_sem] theorem K4(sz n c:Nat):J3 sz n (some c)= .vec c sz 0 n:=rfl
theorem B3D{P:Program}{t sz n:Nat}{ob:Option Nat}(h:ob=none→n=0):A5s P t (J3 sz n ob)=if C9 P t= .slice then some (.int .i64 n)else none:=by
 cases ob with
 |none=>rw[h rfl];rfl
 |some c=>rfl
section
variable {P:Program} {H:Heap} {KD:D→Heap→Prop}
theorem A2c{sz d n:Nat}{ob:Option Nat}(es:List (List D)){xs:List (List D)}(g:xs≠[])(hn:n=es.length)(hc:OutAt H sz es ob)(h1:(n+xs.length)*d≤140737488355328)(i:n+xs.length≤9223372036854775807)
  (h: ∀b',K2 H ob b'=none→KD (.vec b' sz 0 (n+xs.length)) ((K2 H ob).set b' (.vec sz (es++xs)))):apS (J3 sz n ob) sz d xs H KD:=by
 cases ob with
 |none=>
  have e:es= []:=hc;subst e;subst hn;simp only[D03,Nat.zero_add,D18,K2]at h1 i h;exact⟨h1,i,fun e=>absurd e g,fun _ b hb=>h b hb⟩
 |some c=>
  have e:H c=some (.vec sz es):=hc;subst hn;refine⟨rfl,.inl ⟨rfl,?_⟩⟩;rw[e];refine⟨rfl,D1G _,h1,i,fun b hb=>?_⟩;rw[D1B (D1G _)];exact h b hb
theorem ACalls.out{f n:Nat}{sz:Nat}{es:List (List D)}{ob:Option Nat}{ds:List D}{Q:D→Heap→Prop}(hn:n=es.length)(hc:OutAt H sz es ob)(h:ACalls P f (.sl sz es::ds) (K2 H ob) Q):ACalls P f (J3 sz n ob::ds) H Q:=by
 subst hn;cases ob with
 |none=>
  have e:es= []:=hc;subst e;refine ACalls.shift (args':=.sl sz []::ds) (fun w vs h1 g m=>⟨by simpa using h1,fun i d j=>?_,m,fun _ hn=>hn⟩) h;cases i with
  |zero=>simp at j;subst j;exact(g 0 _ rfl).nil_sl sz
  |succ i=>exact g (i+1) d (by simpa using j)
 |some c=>
  refine ACalls.freeze (args':=.sl sz es::ds) hc (by simp) (fun i d d' h1 g=>?_) h;cases i with
  |zero=>simp[J3]at h1 g;subst h1;subst g;exact .all
  |succ i=>simp at h1 g;rw[h1]at g;cases g;exact .same _
theorem V2{f b n sz:Nat}{es:List (List D)}{ds:List D}{Q:D→Heap→Prop}(hb:H b=some (.vec sz es))(hn:n=es.length)(h:ACalls P f (.sl sz es::ds) (H.del b) Q):ACalls P f (.vec b sz 0 n::ds) H Q:=
 ACalls.out (ob:=some b) hn hb h
theorem A0o{f b n sz:Nat}{es:List (List D)}{a:D}{ds:List D}{Q:D→Heap→Prop}(hb:H b=some (.vec sz es))(hn:n=es.length)(h:ACalls P f (a:: .sl sz es::ds) (H.del b) Q):ACalls P f (a:: .vec b sz 0 n::ds) H Q:=by
 subst hn;refine ACalls.freeze (args':=a:: .sl sz es::ds) hb (by simp) (fun i d d' h1 e=>?_) h
 match i with
 |0=>simp at h1 e;subst h1;subst e;exact .same _
 |1=>simp at h1 e;subst h1;subst e;exact .all
 |i+2=>simp at h1 e;rw[h1]at e;cases e;exact .same _
theorem Fin.out{n sz:Nat}{es:List (List D)}{ob:Option Nat}{Q:D→Heap→Prop}(hn:n=es.length)(hc:OutAt H sz es ob)(h:Fin Q (.sl sz es) (K2 H ob)):Fin Q (J3 sz n ob) H:=by
 subst hn;cases ob with
 |none=>
  have e:es= []:=hc;subst e;unfold Fin at h⊢;obtain⟨d,e,h1,g⟩:=h;exact⟨d,e,Shift.trans (fun w v hr hs=>⟨by cases hr;exact .sl0 _ _ _,hs,fun _ hn=>hn⟩) h1,g⟩
 |some c=>exact Fin.freeze hc .all h
theorem A60{n sz:Nat}{es:List (List D)}{ob:Option Nat}{ds:List D}{Q:D→Heap→Prop}(hn:n=es.length)(hc:OutAt H sz es ob)(h:Fin Q (.tuple (.sl sz es::ds)) (K2 H ob)):Fin Q (.tuple (J3 sz n ob::ds)) H:=by
 cases ob with
 |none=>
  have e:es= []:=hc;subst e;exact Fin.nilsl sz ds h
 |some c=>exact B2p hc hn h
end
theorem B4W{H:Heap}{sz:Nat}{es:List (List D)}{ob:Option Nat}(h:ob=none→es= []):OutAt (putB H sz es ob) sz es ob:=by
 cases ob with
 |none=>exact h rfl
 |some c=>simp[OutAt,putB,Heap.set]
def Rw{α :Type}(f: α →List D)(l:List α):List (List D):=l.map f
section
variable {α :Type} {f: α →List D}
@[go_sem] theorem D6(l:List α):(Rw f l).length=l.length:=by simp[Rw]
theorem B3(l:List α)(k:Nat)(h:k<l.length):(Rw f l).getD k []=f l[k]:=by simp[Rw,h]
theorem C3(l:List α)(k:Nat)(h:k<l.length):(Rw f l)[k]? =some (f l[k]):=by simp[Rw,h]
theorem A2d(l:List α)(k:Nat):(Rw f l).take k=Rw f (l.take k):=by simp[Rw]
theorem A5b(l:List α)(k:Nat):(Rw f l).drop k=Rw f (l.drop k):=by simp[Rw]
theorem O9(l m:List α):Rw f l++Rw f m=Rw f (l++m):=by simp[Rw]
theorem A0w:Rw f []= []:=rfl
theorem Z5(l:List α)(k:Nat)(x: α)(c:List D)(h:f x=c):(Rw f l).set k c=Rw f (l.set k x):=by subst h;simp[Rw,List.map_set]
theorem A6J(n:Nat)(x: α)(c:List D)(h:f x=c):List.replicate n c=Rw f (List.replicate n x):=by subst h;simp[Rw]
end
def I6(s:ByteArray):List D:=[.str s]
@[go_sem] theorem C9M(s:ByteArray):I6 s= [.str s]:=rfl
def OutIn(H:Heap)(sz:Nat)(es:List (List D))(ob:Option Nat)(Hc:Heap):Prop:=H.Le Hc∧OutAt Hc sz es ob∧∀b,ob=some b→H b=none
theorem OutIn.set{H:Heap}{sz:Nat}{es:List (List D)}{ob:Option Nat}{d:Heap}(h:OutIn H sz es ob d){b:Nat}(hb:d b=none)(o:Obj):OutIn H sz es ob (d.set b o):=by
 refine⟨h.1.trans (A0 hb),?_,h.2.2⟩;cases ob with
 |none=>exact h.2.1
 |some c=>
  have hc:d c=some (.vec sz es):=h.2.1;show (d.set b o) c=_;rw[A4 o (by rintro rfl;rw[hb]at hc;cases hc)];exact hc
theorem OutIn.le{H:Heap}{sz:Nat}{es:List (List D)}{ob:Option Nat}{d:Heap}(h:OutIn H sz es ob d):H.Le (K2 d ob):=by
 cases ob with
 |none=>exact h.1
 |some c=>
  intro k x hk;show (d.del c) k=_;rw[E5 (by rintro rfl;rw[h.2.2 _ rfl]at hk;cases hk)];exact h.1 k x hk
theorem OutIn.new{H:Heap}{sz:Nat}{es:List (List D)}{ob:Option Nat}{d:Heap}(h:OutIn H sz es ob d){b:Nat}(hb:K2 d ob b=none):H b=none:=h.le.none hb
theorem OutIn.step{H:Heap}{sz:Nat}{es:List (List D)}{ob:Option Nat}{d:Heap}(h:OutIn H sz es ob d){b:Nat}(o:Obj):(H.set b o).Le ((K2 d ob).set b o):=by
 intro k x hk;unfold Heap.set at hk⊢;split
 ·rename_i e;rw[if_pos e]at hk;exact hk
 ·rename_i e;rw[if_neg e]at hk;exact h.le k x hk
end Go.Av
namespace Go.Lin
open Go Go.Av
def F2:List Nat→Nat
 | []=>0
 |d::l=>d+4294967296*F2 l
def C2(n:Nat):List Nat:=if h:n=0 then []else n % 4294967296::C2 (n / 4294967296)
termination_by n
decreasing_by exact Nat.div_lt_self (Nat.pos_of_ne_zero h) (by decide)
def F5(d:Nat):List D:=[.int .u32 d]
@[go_sem] theorem C9N(n:Nat):F5 n= [.int .u32 n]:=rfl
abbrev Y2(n:Nat):D:=.sl 1 (Rw F5 (C2 n))
def Dig(l:List Nat):Prop:=∀d∈l,d<4294967296
theorem J9:C2 0= []:=by unfold C2;simp
theorem A0L{n:Nat}(h:n≠0):C2 n=n % 4294967296::C2 (n / 4294967296):=by rw[C2];simp[h]
theorem Q1(n:Nat):Dig (C2 n):=by
 induction n using Nat.strongRecOn with
 |ind n g=>
  intro d e;by_cases h:n=0
  ·subst h;rw[J9]at e;cases e
  ·rw[A0L h]at e;rcases D1O.1 e with rfl|e
   ·exact Nat.mod_lt _ (by decide)
   ·exact g (n / 4294967296) (Nat.div_lt_self (Nat.pos_of_ne_zero h) (by decide)) d e
theorem L0(n:Nat):F2 (C2 n)=n:=by
 induction n using Nat.strongRecOn with
 |ind n d=>
  by_cases h:n=0
  ·subst h;rw[J9];rfl
  ·rw[A0L h,F2,d _ (Nat.div_lt_self (Nat.pos_of_ne_zero h) (by decide))];exact Nat.mod_add_div n 4294967296
theorem l7(l m:List Nat):F2 (l++m)=F2 l+4294967296 ^ l.length*F2 m:=by
 induction l with
 |nil=>simp[F2]
 |cons d l e=>
  rw[D17,F2,e,F2,D01,Nat.pow_succ,Nat.mul_add,Nat.mul_comm (4294967296 ^ l.length) 4294967296,Nat.mul_assoc,Nat.add_assoc]
theorem y7(l:List Nat)(d:Nat):F2 (l++[d])=F2 l+4294967296 ^ l.length*d:=by rw[l7];simp[F2]
theorem H9(l:List Nat)(i:Nat)(h:i<l.length):F2 (l.take (i+1))=F2 (l.take i)+4294967296 ^ i*l[i]:=by
 rw[D1F h,y7,D1e,Nat.min_eq_left (by omega)]
theorem A2e(l:List Nat)(i:Nat)(h:i<l.length):F2 (l.drop i)=l[i]+4294967296*F2 (l.drop (i+1)):=by
 rw[D1R h,F2]
theorem B12(n:Nat):F2 (List.replicate n 0)=0:=by
 induction n with
 |zero=>rfl
 |succ n d=>rw[List.replicate_succ,F2,d]
theorem A8f{l:List Nat}(h:Dig l):F2 l<4294967296 ^ l.length:=by
 induction l with
 |nil=>simp[F2]
 |cons d l e=>
  have h1:=h d (D07 ..);have g:=e (fun x hx=>h x (D1E _ hx));rw[F2,D01,Nat.pow_succ]
  calc d+4294967296*F2 l<4294967296+4294967296*F2 l:=by omega
   _=4294967296*(F2 l+1):=by rw[Nat.mul_add];omega
   _≤4294967296*4294967296 ^ l.length:=Nat.mul_le_mul_left _ g
   _=4294967296 ^ l.length*4294967296:=Nat.mul_comm _ _
theorem B9X{l:List Nat}(h:Dig l)(hl: ∀(hn:l≠[]),l.getLast hn≠0):C2 (F2 l)=l:=by
 induction l with
 |nil=>rw[F2,J9]
 |cons d l m=>
  have h1:d<4294967296:=h d (D07 ..);have i:=m (fun x hx=>h x (D1E _ hx)) (fun hn=>by
   have:=hl (List.cons_ne_nil _ _);rwa [List.getLast_cons hn]at this)
  have j:F2 (d::l)≠0:=by
   rw[F2];cases l with
   |nil=>
    have:=hl (List.cons_ne_nil _ _);simp at this;simp[F2,this]
   |cons e l=>
    intro p;have o:F2 (e::l)=0:=by
     have:4294967296*F2 (e::l)=0:=by omega
     rcases Nat.mul_eq_zero.1 this with g|g
     ·exact absurd g (by decide)
     ·exact g
    rw[o,J9]at i;cases i
  rw[A0L j];have e1:F2 (d::l) % 4294967296=d:=by rw[F2,Nat.add_mul_mod_self_left];exact D1x h1
  have e2:F2 (d::l) / 4294967296=F2 l:=by rw[F2,Nat.add_mul_div_left _ _ (by decide),Nat.div_eq_of_lt h1,Nat.zero_add]
  rw[e1,e2,i]
theorem B4X(n:Nat): ∀(hn:C2 n≠[]),(C2 n).getLast hn≠0:=by
 induction n using Nat.strongRecOn with
 |ind n j=>
  intro hn;by_cases h:n=0
  ·subst h;rw[J9]at hn;exact absurd rfl hn
  ·have e:=A0L h;by_cases i:n / 4294967296=0
   ·have e2:C2 n= [n % 4294967296]:=by rw[e,i,J9]
    have:n % 4294967296=n:=D1x (by rcases Nat.div_eq_zero_iff.1 i with g|g;exact absurd g (by decide);exact g);simp only[e2,List.getLast_singleton,this];exact h
   ·have d:C2 (n / 4294967296)≠[]:=by rw[A0L i];exact List.cons_ne_nil _ _
    have g:=j (n / 4294967296) (Nat.div_lt_self (Nat.pos_of_ne_zero h) (by decide)) d;have e3:(C2 n).getLast hn=(n % 4294967296::C2 (n / 4294967296)).getLast (List.cons_ne_nil _ _):=by congr 1
    rw[e3,List.getLast_cons d];exact g
theorem B9Y{l m:List Nat}{x:Nat}(e:l=m++[x])(h:l≠[]):l.getLast h=x:=by subst e;simp
def A0M:List Nat→Nat→Nat
 |_,0=>0
 |l,n+1=>if l.getD n 0=0 then A0M l n else n+1
theorem B0J(l:List Nat)(n:Nat):A0M l n≤n:=by
 induction n with
 |zero=>exact D1G _
 |succ n d=>unfold A0M;split;omega;exact D1G _
theorem A6K{l:List Nat}(h:Dig l): ∀n,n≤l.length→l.take (A0M l n)=C2 (F2 (l.take n))
 |0,_=>by simp[A0M,F2,J9]
 |n+1,hn=>by
  have hl:n<l.length:=by omega
  have i:l.getD n 0=l[n]:=by simp[hl]
  unfold A0M;rw[i];split
  ·rename_i e;rw[A6K h n (by omega),H9 l n hl,e,Nat.mul_zero,Nat.add_zero]
  ·rename_i e;refine(B9X (fun d j=>h d (List.mem_of_mem_take j)) fun g=>?_).symm;rw[B9Y (D1F hl) g];exact e
theorem B0K{l:List Nat}(h:Dig l):l.take (A0M l l.length)=C2 (F2 l):=by
 have:=A6K h l.length (D1G _);rwa [List.take_length]at this
theorem B0L(n k:Nat)(h:n<4294967296 ^ k):(C2 n).length≤k:=by
  induction k generalizing n with
  | zero => have:n=0:=by simpa using h
            subst this;rw[J9];exact D1G _
  |succ k e=>
    by_cases d:n=0
    · subst d;rw[J9];exact D1H _
    · rw[A0L d,D01]
      have:=e (n / 4294967296) (Nat.div_lt_of_lt_mul (by rw[Nat.pow_succ,Nat.mul_comm]at h;exact h));omega
theorem I8(n:Nat):(C2 n).length=0↔n=0:=by
 constructor
 ·intro h;have:=L0 n;rw[D1K h]at this;exact this.symm
 ·rintro rfl;rw[J9];rfl
theorem A3g{n:Nat}(h:n<4294967296)(d:n≠0):C2 n= [n]:=by
 rw[A0L d,D1x h,Nat.div_eq_of_lt h,J9]
theorem A0f{a b:Nat}(h:(C2 a).length<(C2 b).length):a<b:=by
 by_cases hb:b=0
 ·subst hb;rw[J9]at h;simp at h
 ·have h1:a<4294967296 ^ (C2 a).length:=by have:=A8f (Q1 a);rwa [L0]at this
  have d:C2 b≠[]:=by intro e;rw[e]at h;simp at h
  have i:4294967296 ^ ((C2 b).length-1)≤b:=by
   have e:=List.dropLast_concat_getLast d;have g:=L0 b;rw[←e,y7]at g;have l:=B4X b d;have:4294967296 ^ (C2 b).dropLast.length*1≤4294967296 ^ (C2 b).dropLast.length*(C2 b).getLast d:=Nat.mul_le_mul_left _ (by omega);rw[List.length_dropLast]at this;rw[List.length_dropLast]at g;omega
  exact D1s h1 (D12 (Nat.pow_le_pow_right (by decide) (by omega)) i)
theorem B4Y{a b:Nat}(h:a≤b):(C2 a).length≤(C2 b).length:=by
 by_cases g:(C2 b).length<(C2 a).length
 ·have:=A0f g;omega
 ·omega
theorem B0M{l m:List Nat}(hl:Dig l)(hm:Dig m)(he:l.length=m.length){i:Nat}(g:i<l.length)(e:l.drop (i+1)=m.drop (i+1)):l[i]<m[i]'(by omega)→F2 l<F2 m:=fun h=>by
 have e1:F2 l=F2 (l.take i)+4294967296 ^ i*(l[i]+4294967296*F2 (l.drop (i+1))):=by
  conv=>lhs;rw[←D1h i l,l7,A2e l i g,D1e,Nat.min_eq_left (by omega)]
 have e2:F2 m=F2 (m.take i)+4294967296 ^ i*(m[i]+4294967296*F2 (m.drop (i+1))):=by
  conv=>lhs;rw[←D1h i m,l7,A2e m i (by omega),D1e,Nat.min_eq_left (by omega)]
 have j:=A8f (l:=l.take i) (fun d e=>hl d (List.mem_of_mem_take e));rw[D1e,Nat.min_eq_left (by omega)]at j;rw[e1,e2,e]
 calc F2 (l.take i)+4294967296 ^ i*(l[i]+4294967296*F2 (m.drop (i+1)))<4294967296 ^ i+4294967296 ^ i*(l[i]+4294967296*F2 (m.drop (i+1))):=by omega
  _=4294967296 ^ i*(l[i]+1+4294967296*F2 (m.drop (i+1))):=by rw[Nat.mul_add,Nat.mul_add,Nat.mul_add];omega
  _≤4294967296 ^ i*(m[i]+4294967296*F2 (m.drop (i+1))):=Nat.mul_le_mul_left _ (by omega)
  _≤_:=Nat.le_add_left _ _
theorem A1Z(L:List Nat)(s:Nat):F2 (L++[s % 4294967296])+4294967296 ^ (L.length+1)*(s / 4294967296)=F2 L+4294967296 ^ L.length*s:=by
 rw[y7,Nat.pow_succ,Nat.add_assoc,Nat.mul_assoc,←Nat.mul_add,Nat.mod_add_div]
theorem A43(L:List Nat)(s:Int):(F2 (L++[(s % (4294967296:Int)).toNat]):Int)+(4294967296:Int) ^ (L.length+1)*(s / (4294967296:Int))=F2 L+(4294967296:Int) ^ L.length*s:=by
 have d:0≤s % (4294967296:Int):=Int.emod_nonneg _ (by decide);have h1:((s % (4294967296:Int)).toNat:Int)=s % (4294967296:Int):=Int.toNat_of_nonneg d;have e:(((4294967296:Nat) ^ L.length:Nat):Int)=(4294967296:Int) ^ L.length:=Int.natCast_pow _ _;rw[y7,Int.natCast_add,Int.natCast_mul,h1,e,Int.pow_succ,Int.add_assoc,Int.mul_assoc,←Int.mul_add,Int.emod_add_mul_ediv]
theorem B0N(l:List Nat)(p d:Nat)(h:p<l.length):F2 (l.set p d)+4294967296 ^ p*l[p]=F2 l+4294967296 ^ p*d:=by
 have e1:l.set p d=l.take p++d::l.drop (p+1):=by rw[List.set_eq_take_append_cons_drop,if_pos h]
 have e2:F2 l=F2 (l.take p)+4294967296 ^ p*(l[p]+4294967296*F2 (l.drop (p+1))):=by
  conv=>lhs;rw[←D1h p l,l7,A2e l p h,D1e,Nat.min_eq_left (by omega)]
 rw[e1,l7,F2,D1e,Nat.min_eq_left (by omega),e2,Nat.mul_add,Nat.mul_add];omega
theorem B3E{l:List Nat}(h:Dig l){p d:Nat}(e:d<4294967296):Dig (l.set p d):=fun x hx=>by
 rcases List.mem_or_eq_of_mem_set hx with g|rfl
 ·exact h x g
 ·exact e
theorem l8{l:List Nat}(h:Dig l){d:Nat}(e:d<4294967296):Dig (l++[d]):=fun x hx=>by
 rcases D1M.1 hx with g|g
 ·exact h x g
 ·rw[D1N]at g;rw[g];exact e
theorem K3{l:List Nat}(h:Dig l){i:Nat}(d:i<l.length):l[i]<4294967296:=h _ (D1A d)
theorem B4Z(n:Nat):Dig (List.replicate n 0):=fun x hx=>by rw[(List.mem_replicate.1 hx).2];decide
def T3(L:List Nat)(n:Nat):List Nat:=L++List.replicate (n-L.length) 0
theorem A6L(L:List Nat)(n:Nat)(h:L.length≤n):(T3 L n).length=n:=by simp[T3];omega
theorem l9(L:List Nat)(n d:Nat)(h:L.length<n):(T3 L n).set L.length d=T3 (L++[d]) n:=by
 unfold T3;rw[List.set_append_right _ _ (D1G _),Nat.sub_self,D02,D04];have e:n-L.length=(n-(L.length+1))+1:=by omega
 rw[e,List.replicate_succ,List.set_cons_zero,D1k];rfl
theorem A6M(n:Nat):T3 [] n=List.replicate n 0:=by simp[T3]
theorem A4X(L:List Nat)(n:Nat)(h:L.length=n):T3 L n=L:=by simp[T3,h]
def A3h(L:List Nat)(n:Nat):List Nat:=List.replicate (n-L.length) 0++L
theorem B6C(L:List Nat)(n:Nat)(h:L.length≤n):(A3h L n).length=n:=by simp[A3h];omega
theorem B6D(L:List Nat)(n d k:Nat)(h:L.length+k+1=n):(A3h L n).set k d=A3h (d::L) n:=by
 unfold A3h;have e:n-L.length=k+1:=by omega
 have e2:n-(d::L).length=k:=by simp;omega
 rw[e,e2,List.replicate_succ',D1k,List.set_append_right _ _ (by simp)];simp
theorem B6E(n:Nat):A3h [] n=List.replicate n 0:=by simp[A3h]
theorem B4a(L:List Nat)(n:Nat)(h:L.length=n):A3h L n=L:=by simp[A3h,h]
theorem B6F{b r V A x:Nat}(hb:0<b)(h:V*b+r=A):((r*4294967296+x) / b+4294967296*V)*b+(r*4294967296+x) % b=x+4294967296*A:=by
 have e:=Nat.div_add_mod (r*4294967296+x) b;have e1:(r*4294967296+x) / b*b=b*((r*4294967296+x) / b):=Nat.mul_comm _ _;have e2:4294967296*A=4294967296*V*b+4294967296*r:=by rw[←h,Nat.mul_add,Nat.mul_assoc]
 have e3:r*4294967296=4294967296*r:=Nat.mul_comm _ _;rw[Nat.add_mul,e2];omega
theorem B9Z{b r V A:Nat}(hb:r<b)(h:V*b+r=A):A / b=V∧A % b=r:=by
 subst h;constructor
 ·rw[Nat.mul_comm,Nat.mul_add_div (by omega),Nat.div_eq_of_lt hb,Nat.add_zero]
 ·rw[Nat.mul_comm,Nat.mul_add_mod,D1x hb]
theorem B6G(l:List Nat)(p i j s x y c T A:Nat)(h:p<l.length)(hp:p=i+j)(hv:F2 l+4294967296 ^ p*c=T+4294967296 ^ i*x*A)(hs:s=c+(x*y+l[p])):
  F2 (l.set p (s % 4294967296))+4294967296 ^ (p+1)*(s / 4294967296)=T+4294967296 ^ i*x*(A+4294967296 ^ j*y):=by
 have e1:=B0N l p (s % 4294967296) h;have e2:4294967296 ^ (p+1)*(s / 4294967296)=4294967296 ^ p*(4294967296*(s / 4294967296)):=by rw[Nat.pow_succ,Nat.mul_assoc]
 have e3:4294967296 ^ p*(s % 4294967296)+4294967296 ^ p*(4294967296*(s / 4294967296))=4294967296 ^ p*c+4294967296 ^ p*(x*y)+4294967296 ^ p*l[p]:=by
  rw[←Nat.mul_add,Nat.mod_add_div,hs,Nat.mul_add,Nat.mul_add,Nat.add_assoc]
 have d:4294967296 ^ i*x*(4294967296 ^ j*y)=4294967296 ^ p*(x*y):=by
  rw[hp,Nat.pow_add];simp only[Nat.mul_assoc,Nat.mul_left_comm,Nat.mul_comm]
 rw[Nat.mul_add,d,e2];omega
theorem B9a(l:List Nat)(p c T X:Nat)(h:p<l.length)(d:l[p]=0)(hv:F2 l+4294967296 ^ p*c=T+X):F2 (l.set p c)=T+X:=by
 have e1:=B0N l p c h;rw[d,Nat.mul_zero]at e1;omega
theorem C3X{x y o c:Nat}(hx:x<4294967296)(d:y<4294967296)(ho:o<4294967296)(hc:c<4294967296):c+(x*y+o)<18446744073709551616∧x*y<18446744073709551616:=by
 have:=Nat.mul_le_mul (show x≤4294967295 by omega) (show y≤4294967295 by omega);constructor<;>omega
end Go.Lin
namespace Go.Lexs
open Go.Av
def Q4(c:Int):Bool:=decide (48≤c)&&decide (c≤57)
def B3F(c:Int):Bool:=(decide (97≤c)&&decide (c≤122))||(decide (65≤c)&&decide (c≤90))
def B3G(c:Int):Bool:=B3F c||Q4 c||decide (c=95)
def C7F(c:Int):Bool:=decide (32≤c)&&decide (c≤126)&&decide (c≠34)&&decide (c≠92)
def C3Y(c:Int):Bool:=decide (c=32)||decide (c=9)||decide (c=10)||decide (c=13)
theorem U4(c:Int):Q4 c=true↔48≤c∧c≤57:=by simp[Q4]
def ofB(p:Int→Bool)(c:UInt8):Bool:=p (c.toNat:Int)
def C3Z(l:List UInt8):Bool:=l.all (ofB C7F)&&decide (l.length≤200)
theorem j4(p:Int→Bool)(l:List UInt8)(k:Nat)(hk:k<l.length):(l.take (k+1)).all (ofB p)=((l.take k).all (ofB p)&&p (V5 l k)):=by
 rw[D1F hk,D10];simp[hk,ofB,V5]
theorem v8(p:Int→Bool)(l:List UInt8)(k:Nat)(hk:k<l.length)(h:p (V5 l k)=false):l.all (ofB p)=false:=by
 rw[List.all_eq_false];exact⟨l[k],D1A hk,by simpa [hk,ofB,V5]using h⟩
def adv(p:Int×Int)(c:UInt8):Int×Int:=if c.toNat=10 then(p.1+1,1)else(p.1,p.2+1)
def place(l:List UInt8)(i:Nat):Int×Int:=(l.take i).foldl adv (1,1)
def A8g:List UInt8→Nat
 | []=>0
 |c::r=>if c.toNat=10 then 0 else A8g r+1
def B9b(l:List UInt8):Bool:=List.isPrefixOf [47,47] l
def B6H:Nat→List UInt8→Nat
 |0,_=>0
 |_+1,[]=>0
 |n+1,c::r=>if ofB C3Y c then 1+B6H n r else if B9b (c::r)then A8g (c::r)+B6H n ((c::r).drop (A8g (c::r)))else 0
def sk(l:List UInt8):Nat:=B6H l.length l
def B6I(l:List UInt8)(i:Nat):Nat:=i+sk (l.drop i)
structure Tok where
 kind:Int
 text:List UInt8
 n:Int
 deriving DecidableEq
def A3i(p:Int→Bool):List UInt8→Nat
 | []=>0
 |c::r=>if ofB p c then A3i p r+1 else 0
def C7G:List UInt8→Nat:=List.foldl (fun n c=>10*n+(c.toNat-48)) 0
def B6J(signs:List (List UInt8))(l:List UInt8):Nat:=signs.foldl (fun n s=>if n<s.length∧List.isPrefixOf s l=true then s.length else n) 0
def A6N:List UInt8→Nat
 | []=>0
 |c::r=>if c.toNat=34 then 0 else A6N r+1
def C9O(signs:List (List UInt8))(l:List UInt8):Option (Tok×Nat):=
 if B3F (V5 l 0)then(if A3i B3G l≤40 then some (⟨1,l.take (A3i B3G l),0⟩,A3i B3G l)else none)
 else if Q4 (V5 l 0)then
  (if C7G (l.take (A3i Q4 l))≤2147483647∧¬(A3i Q4 l<l.length∧B3G (V5 l (A3i Q4 l))=true)then some (⟨2,[],C7G (l.take (A3i Q4 l))⟩,A3i Q4 l)else none)
 else if V5 l 0=34 then
  (if A6N (l.drop 1)<(l.drop 1).length∧C3Z ((l.drop 1).take (A6N (l.drop 1)))=true then some (⟨3,(l.drop 1).take (A6N (l.drop 1)),0⟩,A6N (l.drop 1)+2)else none)
 else if B6J signs l=0 then none else some (⟨4,l.take (B6J signs l),0⟩,B6J signs l)
def C7H(signs:List (List UInt8))(l:List UInt8):Nat→Nat→List (Tok×Nat)→Except Nat (List (Tok×Nat))
 |0,_,acc=>.ok acc
 |f+1,i,acc=>if i<l.length then match C9O signs (l.drop i)with
  |none=>.error i
  |some (t,k)=>C7H signs l f (B6I l (i+k)) (acc++[(t,i)])
  else .ok acc
def cut(signs:List (List UInt8))(l:List UInt8):Except Nat (List (Tok×Nat)):=C7H signs l (l.length+1) (B6I l 0) []
end Go.Lexs
namespace Go.Lin
open Go Go.Av Go.Lexs
structure LTm where
 v:ByteArray
 c:Int
 deriving DecidableEq
instance :Inhabited LTm:=⟨⟨⟨#[]⟩,0⟩⟩
structure LinV where
 t:List LTm
 k:Int
 e:Bool
 deriving DecidableEq
instance :Inhabited LinV:=⟨⟨[],0,false⟩⟩
structure VlV where
 v:ByteArray
 n:Int
 deriving DecidableEq
instance :Inhabited VlV:=⟨⟨⟨#[]⟩,0⟩⟩
abbrev L4(t:LTm):List D:=[.str t.v,.int .i64 t.c]
abbrev D7(a:LinV):List D:=[.sl 2 (Rw L4 a.t),.int .i64 a.k,.bool a.e]
abbrev vlC(x:VlV):List D:=[.str x.v,.int .i64 x.n]
theorem A4Y(a:LinV):D7 a= [.sl 2 (Rw L4 a.t),.int .i64 a.k,.bool a.e]:=rfl
def S5(n:Int):Prop:= -9223372036854775808≤n∧n≤9223372036854775807
structure L6(a:LinV):Prop where
 len:a.t.length≤5864062014639
 str: ∀t∈a.t,t.v.size≤140737488351232
 co: ∀t∈a.t,S5 t.c
 ko:S5 a.k
structure A7S(l:List VlV):Prop where
 len:l.length≤5864062014639
 str: ∀t∈l,t.v.size≤140737488351232
 no: ∀t∈l,S5 t.n
def R0(c:Int):Bool:=decide (33≤c)&&decide (c≤126)&&decide (c≠43)&&decide (c≠45)&&decide (c≠42)&&decide (c≠60)&&decide (c≠62)&&decide (c≠61)
def G7(l:List UInt8):Bool:=decide (l≠[])&&decide (l.length≤200)&& !Q4 (V5 l 0)&&l.all (ofB R0)
theorem A2f(c:Int):R0 c=true↔33≤c∧c≤126∧c≠43∧c≠45∧c≠42∧c≠60∧c≠62∧c≠61:=by simp[R0,and_assoc]
theorem A3k{c:Int}(h: ¬(33≤c∧c≤126∧c≠43∧c≠45∧c≠42∧c≠60∧c≠62∧c≠61)):R0 c=false:=by rw[←D2I,A2f];exact h
def W8(x y:ByteArray):Bool:=Op.bytesLess (B x) (B y)
theorem B6K(x:List UInt8): ∀y,Op.bytesLess x y=true↔x<y:=by
 induction x with
 |nil=>intro y;cases y<;>simp[Op.bytesLess]
 |cons a x d=>
  intro y;cases y with
  |nil=>simp[Op.bytesLess]
  |cons b y=>
   simp only[Op.bytesLess,List.cons_lt_cons_iff,D2J,D09,D1I,beq_iff_eq,d y]
theorem A3l(x y:ByteArray):W8 x y=true↔B x<B y:=B6K _ _
theorem w9(x:ByteArray):W8 x x=false:=by
 rw[←D2I,A3l];exact List.lt_irrefl _
theorem Z6{x y z:ByteArray}(h:W8 x y=true)(g:W8 y z=true):W8 x z=true:=by
 rw[A3l]at*;exact List.lt_trans h g
theorem B9c{x y:ByteArray}(h:W8 x y=false)(d:x≠y):W8 y x=true:=by
 rw[←D2I,A3l]at h;rw[A3l];have:B x≠B y:=fun e=>d (by rw[←S_B x,←S_B y,e]);by_cases g:B y<B x
 ·exact g
 ·exact absurd (List.le_antisymm (List.not_lt.1 g) (List.not_lt.1 h)) this
def J7(n most:Int):Bool:=decide (-most≤n)&&decide (n≤most)
def A2A(l:List LTm)(i:Nat):Bool:=
 G7 (B (l.getD i default).v)&&(decide (i=0)||W8 (l.getD (i-1) default).v (l.getD i default).v)&&decide ((l.getD i default).c≠0)&&J7 (l.getD i default).c 1048576
def W9(l:List LTm):Bool:=(List.range l.length).all (A2A l)
def validL(a:LinV):Bool:=W9 a.t&&decide (a.t.length≤12)&&J7 a.k 1099511627776
def up:List ByteArray→Bool
 | []=>true
 | [_]=>true
 |x::y::l=>W8 x y&&up (y::l)
def H7:List ByteArray→ByteArray→List ByteArray
 | [],s=>[s]
 |x::l,s=>if W8 x s=true then x::H7 l s else if x=s then x::l else s::x::l
def P4(l:List LinV):List ByteArray:=l.flatMap fun c=>c.t.map (·.v)
def A2B(l:List LinV):List ByteArray:=(P4 l).foldl H7 []
theorem A7T(l:List ByteArray)(s x:ByteArray):x∈H7 l s↔x∈l∨x=s:=by
 induction l with
 |nil=>simp[H7]
 |cons y l d=>
  unfold H7;split
  ·simp only[D1O,d];constructor
   ·rintro(h|h|h)
    ·exact .inl (.inl h)
    ·exact .inl (.inr h)
    ·exact .inr h
   ·rintro((h|h)|h)
    ·exact .inl h
    ·exact .inr (.inl h)
    ·exact .inr (.inr h)
  ·split
   ·rename_i e;subst e;simp only[D1O];constructor
    ·exact .inl
    ·rintro(h|h)
     ·exact h
     ·exact .inl h
   ·simp only[D1O];constructor
    ·rintro(h|h)
     ·exact .inr h
     ·exact .inl h
    ·rintro(h|h)
     ·exact .inr h
     ·exact .inl h
theorem B6L{l:List ByteArray}{s:ByteArray}(h:l.Pairwise fun x y=>W8 x y=true):(H7 l s).Pairwise fun x y=>W8 x y=true:=by
 induction l with
 |nil=>exact List.pairwise_singleton _ _
 |cons y l i=>
  unfold H7;split
  ·rename_i h1;refine List.Pairwise.cons (fun z d=>?_) (i h.of_cons);rcases(A7T _ _ _).1 d with g|rfl
   ·exact List.rel_of_pairwise_cons h g
   ·exact h1
  ·rename_i h1;split
   ·exact h
   ·rename_i j;have e:=B9c (D2I _ ▸ h1) j;refine List.Pairwise.cons (fun z d=>?_) h;rcases D1O.1 d with rfl|d
    ·exact e
    ·exact Z6 e (List.rel_of_pairwise_cons h d)
theorem B0O(m:List ByteArray): ∀(l:List ByteArray),l.Pairwise (fun x y=>W8 x y=true)→(m.foldl H7 l).Pairwise fun x y=>W8 x y=true:=by
 induction m with
 |nil=>exact fun l h=>h
 |cons s m d=>exact fun l h=>d _ (B6L h)
theorem A7U(m:List ByteArray)(x:ByteArray): ∀(l:List ByteArray),x∈m.foldl H7 l↔x∈l∨x∈m:=by
 induction m with
 |nil=>intro l;simp
 |cons s m d=>
  intro l;rw[List.foldl_cons,d,A7T,D1O,or_assoc]
theorem B0P(l:List LinV):(A2B l).Pairwise fun x y=>W8 x y=true:=B0O _ _ .nil
theorem A7V(l:List LinV)(x:ByteArray):x∈A2B l↔x∈P4 l:=by unfold A2B;rw[A7U];simp
theorem A6O: ∀{l m:List ByteArray},l.Pairwise (fun x y=>W8 x y=true)→m.Pairwise (fun x y=>W8 x y=true)→(∀x,x∈l↔x∈m)→l=m
 | [],[],_,_,_=>rfl
 | [],y::m,_,_,h=>absurd ((h y).2 (D07 ..)) (by simp)
 |x::l,[],_,_,h=>absurd ((h x).1 (D07 ..)) (by simp)
 |x::l,y::m,hl,hm,h=>by
  have e:x=y:=by
   rcases D1O.1 ((h x).1 (D07 ..))with e|g
   ·exact e
   ·rcases D1O.1 ((h y).2 (D07 ..))with e|i
    ·exact e.symm
    ·have a1:=List.rel_of_pairwise_cons hm g;have a2:=List.rel_of_pairwise_cons hl i;have:=Z6 a1 a2;rw[w9]at this;cases this
  subst e;refine congrArg (x:: ·) (A6O hl.of_cons hm.of_cons fun z=>?_);constructor
  ·intro d;rcases D1O.1 ((h z).1 (D1E _ d))with rfl|g
   ·have:=List.rel_of_pairwise_cons hl d;rw[w9]at this;cases this
   ·exact g
  ·intro d;rcases D1O.1 ((h z).2 (D1E _ d))with rfl|g
   ·have:=List.rel_of_pairwise_cons hm d;rw[w9]at this;cases this
   ·exact g
abbrev dec(n:Nat):List UInt8:=Lib.decDigits n
theorem A4Z{n:Nat}(h:n<10):dec n= [UInt8.ofNat (48+n)]:=by rw[dec,Lib.decDigits,dif_pos h]
theorem A6P{n:Nat}(h: ¬n<10):dec n=dec (n / 10)++[UInt8.ofNat (48+n % 10)]:=by rw[dec,Lib.decDigits,dif_neg h]
theorem A1B{d:Nat}(h:d<10):(UInt8.ofNat (48+d)).toNat=48+d:=by
 rw[UInt8.toNat_ofNat'];omega
theorem Q2(n:Nat): ∀c∈dec n,48≤c.toNat∧c.toNat≤57:=by
 induction n using Nat.strongRecOn with
 |ind n d=>
  intro c hc;by_cases h:n<10
  ·rw[A4Z h,D1N]at hc;subst hc;rw[A1B h];omega
  ·rw[A6P h]at hc;rcases D1M.1 hc with g|g
   ·exact d (n / 10) (by omega) c g
   ·rw[D1N]at g;subst g;rw[A1B (by omega)];omega
theorem A8h(n:Nat):dec n≠[]:=by
 by_cases h:n<10
 ·rw[A4Z h];simp
 ·rw[A6P h];simp
theorem A5c(k n:Nat)(h:n<10 ^ (k+1)):(dec n).length≤k+1:=by
 induction k generalizing n with
 |zero=>rw[A4Z (by omega)];simp
 |succ k d=>
  by_cases hn:n<10
  ·rw[A4Z hn];simp
  ·rw[A6P hn,D02,D04];have:=d (n / 10) (by rw[Nat.pow_succ]at h;omega);omega
theorem A6Q(l:List UInt8)(d:Nat)(i:d<10): ∀(e u:Nat),Lib.parseUint10 e l= .ok u→u*10+d<18446744073709551616→Lib.parseUint10 e (l++[UInt8.ofNat (48+d)])= .ok (u*10+d):=by
 induction l with
 |nil=>
  intro e u h g;simp only[Lib.parseUint10]at h;injection h with h
  subst h;simp only[D18,Lib.parseUint10,A1B i];rw[if_pos (by omega),if_neg (by omega),if_neg (by omega)]
  congr 1;omega
 |cons c l j=>
  intro e u h g;simp only[Lib.parseUint10,D17]at h⊢;split at h
  ·rename_i h1;rw[if_pos h1];split at h
   ·cases h
   ·rename_i m;rw[if_neg m];split at h
    ·cases h
    ·rename_i o;rw[if_neg o];exact j _ u h g
  ·cases h
theorem B4b(n:Nat)(h:n<18446744073709551616):Lib.parseUint10 0 (dec n)= .ok n:=by
 induction n using Nat.strongRecOn with
 |ind n d=>
  by_cases h1:n<10
  ·rw[A4Z h1];have:=A6Q [] n h1 0 0 rfl (by omega);simpa using this
  ·rw[A6P h1];have:=A6Q (dec (n / 10)) (n % 10) (by omega) 0 (n / 10) (d _ (by omega) (by omega)) (by omega);rw[this];congr 1;omega
theorem B0Q(n:Nat)(h:n<9223372036854775808):Lib.atoiAll (dec n)= .ok (n:Int):=by
 cases d:dec n with
 |nil=>exact absurd d (A8h n)
 |cons c r=>
  have hc:=Q2 n c (by rw[d];exact D07 ..);have hp:=B4b n (by omega);rw[d]at hp;unfold Lib.atoiAll;simp only[];rw[if_neg (by omega)];have hm:Lib.parseMag (c::r)= .ok n:=by unfold Lib.parseMag;rw[if_neg (by simp)];exact hp
  rw[hm];simp only[];rw[if_neg (by omega),if_neg (by omega),if_neg (by omega)]
def B9d(l:List UInt8):Int:=l.foldl (fun n c=>10*n+(c.toNat:Int)-48) 0
def B9e(l:List UInt8):Int:=B9d (l.take 14)
theorem B6M(n:Nat):B9d (dec n)=n:=by
 induction n using Nat.strongRecOn with
 |ind n d=>
  by_cases h:n<10
  ·rw[A4Z h];simp only[B9d,List.foldl_cons,List.foldl_nil,A1B h];omega
  ·rw[A6P h];have e:=d (n / 10) (by omega);unfold B9d at e⊢;rw[D1o,e];simp only[List.foldl_cons,List.foldl_nil,A1B (show n % 10<10 by omega)];omega
theorem B0R(n:Nat)(h:n<100000000000000):B9e (dec n)=n:=by
 unfold B9e;rw[D1B (A5c 13 n (by omega)),B6M]
def U8(f:Bool)(t:LTm):List UInt8:=(if t.c<0 then [45]else if f=true then []else [43])++((if t.c.natAbs=1 then []else dec t.c.natAbs++[42])++B t.v)
def M2:Bool→List LTm→List UInt8
 |_,[]=>[]
 |f,t::l=>U8 f t++M2 false l
def A0W(f:Bool)(k:Int):List UInt8:=(if k<0 then [45]else if f=true then []else [43])++dec k.natAbs
def S6(a:LinV):List UInt8:=if a.t= []∨a.k≠0 then A0W a.t.isEmpty a.k else []
def M9(a:LinV):List UInt8:=M2 true a.t++S6 a
def F8(a:LinV):List UInt8:=M9 a++if a.e=true then [61,48]else [62,61,48]
theorem B0S(l:List LTm)(t:LTm): ∀f,M2 f (l++[t])=M2 f l++U8 (f&&l.isEmpty) t:=by
 induction l with
 |nil=>intro f;simp[M2]
 |cons x l d=>intro f;simp[M2,d]
def sgn(c:UInt8):Bool:=c==43||c==45
def P5(l:List UInt8):List (List UInt8):=match l with
 | []=>[]
 |x::r=>(x::r.takeWhile (!sgn ·))::P5 (r.dropWhile (!sgn ·))
termination_by l.length
decreasing_by
 have:=(List.dropWhile_sublist (!sgn ·) (l:=r)).length_le;simp only[D01];omega
theorem A3E:P5 []= []:=by unfold P5;rfl
theorem A2C(x:UInt8)(r:List UInt8):P5 (x::r)=(x::r.takeWhile (!sgn ·))::P5 (r.dropWhile (!sgn ·)):=by rw[P5]
def Sg(l:List UInt8):Prop:=∀c r,l=c::r→sgn c=true
theorem T4{p:UInt8→Bool}{l R:List UInt8}(h: ∀c∈l,p c=true)(e: ∀c r,R=c::r→p c=false):(l++R).takeWhile p=l∧(l++R).dropWhile p=R:=by
 induction l with
 |nil=>
  cases R with
  |nil=>simp
  |cons c r=>simp[e c r rfl]
 |cons x l g=>
  have h1:=h x (D07 ..);have d:=g (fun c hc=>h c (D1E _ hc));simp[h1,d.1,d.2]
theorem A6R{x:UInt8}{l R:List UInt8}(h: ∀c∈l,sgn c=false)(d:Sg R):P5 (x::(l++R))=(x::l)::P5 R:=by
 have:=T4 (p:=(!sgn ·)) (l:=l) (R:=R) (fun c hc=>by simp[h c hc]) (fun c r e=>by simp[d c r e]);rw[A2C,this.1,this.2]
def A0X(l:List UInt8):Option (List UInt8×List UInt8):=if(42:UInt8)∈l then some (l.takeWhile (· != 42),(l.dropWhile (· != 42)).drop 1)else none
def Q3(l:List UInt8):Bool:=decide (l≠[])&&Q4 (V5 l 0)
def s9(x:List UInt8):Bool×List UInt8:=
 let b:=Lib.trimPrefix x [43]
 if Lib.hasPrefix b [45]=true then(true,b.drop 1)else(false,b)
def A0N(b:List UInt8):Option (List UInt8×List UInt8):=match A0X b with
 |some (c,n)=>some (c,n)
 |none=>if Q3 b=true then some (b,[])else if b= []then none else some ([49],b)
def N4(x:List UInt8):Option (List UInt8×Int):=match A0N (s9 x).2 with
 |none=>none
 |some (c,n)=>match Lib.atoiAll c with
  | .ok v=>some (n,IntKind.i64.wrap ((if(s9 x).1=true then-1 else 1)*v))
  |_=>none
def A7W(x:List UInt8):Bool×List UInt8:=match x with
 | []=>(false,[])
 |c::r=>if c=45 then(true,r)else if c=43 then(false,r)else(false,c::r)
def A3F(x:List UInt8):List UInt8×Int:=
 let b:=(A7W x).2
 let p:Int×List UInt8:=match A0X b with
  |some (c,n)=>(B9e c,n)
  |none=>(1,b)
 let q:Int×List UInt8:=if p.2= []∨Q3 p.2=true then(B9e p.2,[])else p
 (q.2,if(A7W x).1=true then-q.1 else q.1)
def A67(a:LinV)(p:List UInt8×Int):LinV:=if p.1= []then {a with k:=p.2}else {a with t:=a.t++[⟨S p.1,p.2⟩]}
theorem B3H{p:Int→Bool}{l:List UInt8}(h:l.all (ofB p)=true): ∀c∈l,p (c.toNat:Int)=true:=fun c hc=>D1X.1 h c hc
theorem A6S{l:List UInt8}(h:G7 l=true): ∀c∈l,33≤c.toNat∧c.toNat≤126∧c.toNat≠43∧c.toNat≠45∧c.toNat≠42∧c.toNat≠62∧c.toNat≠61:=fun c hc=>by
 unfold G7 at h;simp only[D09]at h;have:=(A2f _).1 (B3H h.2 c hc);omega
theorem A3m{l:List UInt8}(h:G7 l=true):l≠[]:=by
 unfold G7 at h;simp only[D09,D1I]at h;exact h.1.1.1
theorem A7X{l:List UInt8}(h:G7 l=true):Q3 l=false:=by
 unfold G7 at h;simp only[D09,Bool.not_eq_true']at h;unfold Q3;rw[h.1.2,Bool.and_false]
theorem C3a{c:UInt8}(h1:c.toNat≠43)(d:c.toNat≠45):sgn c=false:=by
 unfold sgn;simp only[Bool.or_eq_false_iff,beq_eq_false_iff_ne];exact⟨fun e=>h1 (by rw[e];rfl),fun e=>d (by rw[e];rfl)⟩
def A1r(t:LTm):List UInt8:=(if t.c.natAbs=1 then []else dec t.c.natAbs++[42])++B t.v
theorem B3I(t:LTm)(h:G7 (B t.v)=true):A1r t≠[]:=by
 unfold A1r;have:=A3m h;intro e;exact this (List.append_eq_nil_iff.1 e).2
theorem A2D(t:LTm)(h:G7 (B t.v)=true): ∀c∈A1r t,c.toNat≠43∧c.toNat≠45∧c.toNat≠62∧c.toNat≠61:=fun c hc=>by
 unfold A1r at hc;rcases D1M.1 hc with g|g
 ·split at g
  ·cases g
  ·rcases D1M.1 g with g|g
   ·have:=Q2 _ c g;omega
   ·rw[D1N]at g;subst g;decide
 ·have:=A6S h c g;omega
theorem A44(s:List UInt8)(b R:List UInt8)(hs:s= []∨s= [43]∨s= [45])(hb:b≠[])(hm: ∀c∈b,c.toNat≠43∧c.toNat≠45)(d:Sg R):P5 (s++b++R)=(s++b)::P5 R:=by
 have hn: ∀c∈b,sgn c=false:=fun c hc=>C3a (hm c hc).1 (hm c hc).2;rcases hs with rfl|hs
 ·cases b with
  |nil=>exact absurd rfl hb
  |cons x b=>exact A6R (x:=x) (fun c hc=>hn c (D1E _ hc)) d
 ·rcases hs with rfl|rfl<;>exact A6R hn d
theorem sign_or(f:Bool)(c:Int):(if c<0 then [45]else if f=true then([]:List UInt8)else [43])= []∨(if c<0 then [45]else if f=true then([]:List UInt8)else [43])= [43]∨(if c<0 then [45]else if f=true then([]:List UInt8)else [43])= [45]:=by
 split
 ·exact .inr (.inr rfl)
 ·split
  ·exact .inl rfl
  ·exact .inr (.inl rfl)
theorem B3J(f:Bool)(c:Int){b:List UInt8}(hb:b≠[])(hm: ∀x∈b,x.toNat≠43∧x.toNat≠45):
    s9 ((if c<0 then [45]else if f=true then []else [43])++b)=(decide (c<0),b)∧A7W ((if c<0 then [45]else if f=true then []else [43])++b)=(decide (c<0),b):=by
  cases b with
  |nil=>exact absurd rfl hb
  |cons x b=>
    have hx:=hm x (D07 ..);have g:x≠43:=fun e=>hx.1 (by rw[e];rfl);have d:x≠45:=fun e=>hx.2 (by rw[e];rfl);by_cases h:c<0
    · rw[if_pos h,D0y h]
      constructor
      · simp[s9,Lib.trimPrefix,Lib.hasPrefix]
      · simp[A7W]
    · rw[if_neg h,D0z h]
      cases f with
      | true => constructor
                · simp[s9,Lib.trimPrefix,Lib.hasPrefix,g.symm,d.symm]
                · simp[A7W,g,d]
      | false => constructor
                 · simp[s9,Lib.trimPrefix,Lib.hasPrefix,d.symm]
                 · simp[A7W]
theorem B6N{d n:List UInt8}(h: ∀c∈d,c.toNat≠42):A0X (d++[42]++n)=some (d,n):=by
 unfold A0X;have e:=T4 (p:=(· != 42)) (l:=d) (R:=42::n) (fun c hc=>by
  have:=h c hc;simp only[bne_iff_ne,ne_eq];intro e;exact this (by rw[e];rfl)) (fun c r e=>by cases e;decide)
 rw[if_pos (by simp),D1k,List.singleton_append,e.1,e.2];rfl
theorem B3K{d:List UInt8}(h: ∀c∈d,c.toNat≠42):A0X d=none:=by
 unfold A0X;rw[if_neg (fun hm=>h _ hm rfl)]
theorem signed{c:Int}:(if decide (c<0)=true then-1 else 1)*(c.natAbs:Int)=c:=by
 by_cases h:c<0
 ·rw[D0y h,if_pos rfl];omega
 ·rw[D0z h,if_neg (by decide)];omega
theorem A8i{c:Int}:(if decide (c<0)=true then-(c.natAbs:Int)else(c.natAbs:Int))=c:=by
 by_cases h:c<0
 ·rw[D0y h,if_pos rfl];omega
 ·rw[D0z h,if_neg (by decide)];omega
theorem A8j{n:Int}(d: -9223372036854775808≤n)(h1:n≤9223372036854775807):IntKind.i64.wrap n=n:=by simp(disch:=omega) only[A5]
theorem B13(f:Bool)(t:LTm)(hn:G7 (B t.v)=true)(h:t.c≠0)(hc:t.c.natAbs≤1048576):N4 (U8 f t)=some (B t.v,t.c)∧A3F (U8 f t)=(B t.v,t.c):=by
 have hb:=B3J f t.c (B3I t hn) (fun x hx=>⟨(A2D t hn x hx).1,(A2D t hn x hx).2.1⟩);have e:U8 f t=(if t.c<0 then [45]else if f=true then []else [43])++A1r t:=rfl;unfold N4 A3F;rw[e,hb.1,hb.2];by_cases h1:t.c.natAbs=1
 ·have g:A1r t=B t.v:=by unfold A1r;rw[if_pos h1,D18]
  have d:A0X (B t.v)=none:=B3K fun c hc=>(A6S hn c hc).2.2.2.2.1;have e1:Lib.atoiAll [49]= .ok 1:=by decide
  have e2:(if decide (t.c<0)=true then-1 else 1)*(1:Int)=t.c:=by have:=signed (c:=t.c);rwa [h1]at this
  have e3:(if decide (t.c<0)=true then-(1:Int)else 1)=t.c:=by have:=A8i (c:=t.c);rwa [h1]at this
  simp only[g,A0N,d,A7X hn,if_neg (A3m hn),D1C,if_false,e1,e2];refine⟨by rw[A8j (by omega) (by omega)],?_⟩;rw[if_neg (by simp[A3m hn])];simp only[e3]
 ·have g:A1r t=dec t.c.natAbs++[42]++B t.v:=by unfold A1r;rw[if_neg h1]
  have d:A0X (dec t.c.natAbs++[42]++B t.v)=some (dec t.c.natAbs,B t.v):=B6N fun c hc=>by have:=Q2 _ c hc;omega
  simp only[g,A0N,d,B0Q t.c.natAbs (by omega),signed];refine⟨by rw[A8j (by omega) (by omega)],?_⟩;rw[if_neg (by simp[A3m hn,A7X hn])];simp only[B0R t.c.natAbs (by omega),A8i]
theorem B6O(n:Nat):Q3 (dec n)=true:=by
 unfold Q3;cases h:dec n with
 |nil=>exact absurd h (A8h n)
 |cons c r=>
  have:=Q2 n c (by rw[h];exact D07 ..);have e:V5 (c::r) 0=(c.toNat:Int):=rfl;rw[e];simp[Q4];omega
theorem A2g(f:Bool)(k:Int)(hk:k.natAbs≤1099511627776):N4 (A0W f k)=some ([],k)∧A3F (A0W f k)=([],k):=by
 have hm: ∀x∈dec k.natAbs,x.toNat≠43∧x.toNat≠45:=fun x hx=>by have:=Q2 _ x hx;omega
 have hb:=B3J f k (A8h k.natAbs) hm;have e:A0W f k=(if k<0 then [45]else if f=true then []else [43])++dec k.natAbs:=rfl;have d:A0X (dec k.natAbs)=none:=B3K fun c hc=>by have:=Q2 _ c hc;omega
 unfold N4 A3F;rw[e,hb.1,hb.2];simp only[A0N,d,B6O,if_true,B0Q k.natAbs (by omega),signed];refine⟨by rw[A8j (by omega) (by omega)],?_⟩;rw[if_pos (.inr trivial)];simp only[B0R k.natAbs (by omega),A8i]
theorem A2E{l:List LTm}(h:W9 l=true){i:Nat}(j:i<l.length):G7 (B l[i].v)=true∧l[i].c≠0∧l[i].c.natAbs≤1048576∧(∀d:i-1<l.length,0<i→W8 l[i-1].v l[i].v=true):=by
 unfold W9 at h;have:=D1X.1 h i (List.mem_range.2 j);unfold A2A J7 at this;have e:l.getD i default=l[i]:=by simp[j]
 have e2: ∀d:i-1<l.length,l.getD (i-1) default=l[i-1]:=fun d=>by simp[d]
 rw[e]at this;simp only[D09,D2J,D1I]at this;refine⟨this.1.1.1,this.1.2,by omega,fun d m=>?_⟩;rcases this.1.1.2 with g|g
 ·omega
 ·rw[e2 d]at g;exact g
theorem L7{l:List LTm}(h:W9 l=true): ∀t∈l,G7 (B t.v)=true∧t.c≠0∧t.c.natAbs≤1048576:=fun t d=>by
 obtain⟨i,e,rfl⟩:=List.getElem_of_mem d;have:=A2E h e;exact⟨this.1,this.2.1,this.2.2.1⟩
theorem B9f(k:Int):Sg (A0W false k):=fun c r e=>by
 unfold A0W at e;split at e
 ·cases e;decide
 ·cases e;decide
theorem B6P(t:LTm)(l:List UInt8):Sg (U8 false t++l):=fun c r e=>by
 unfold U8 at e;split at e
 ·cases e;decide
 ·cases e;decide
theorem A1a: ∀(l:List LTm) (f:Bool) (R:List UInt8),(∀t∈l,G7 (B t.v)=true∧t.c≠0∧t.c.natAbs≤1048576)→Sg R→
  ∃ps,P5 (M2 f l++R)=ps++P5 R∧ps.mapM N4=some (l.map fun t=>(B t.v,t.c))∧ps.map A3F=l.map fun t=>(B t.v,t.c)
 | [],f,R,_,_=>⟨[],by simp[M2],rfl,rfl⟩
 |t::l,f,R,h,i=>by
  have d:=h t (D07 ..);obtain⟨ps,h1,j,m⟩:=A1a l false R (fun x hx=>h x (D1E _ hx)) i;have hp:=B13 f t d.1 d.2.1 d.2.2;have g:Sg (M2 false l++R):=by
   cases l with
   |nil=>exact i
   |cons y l=>rw[M2,D1k];exact B6P y _
  refine⟨U8 f t::ps,?_,?_,?_⟩
  ·rw[M2,D1k];have e:U8 f t=(if t.c<0 then [45]else if f=true then []else [43])++A1r t:=rfl;have:=A44 (if t.c<0 then [45]else if f=true then []else [43]) (A1r t) (M2 false l++R) (sign_or f t.c) (B3I t d.1) (fun c hc=>⟨(A2D t d.1 c hc).1,(A2D t d.1 c hc).2.1⟩) g;rw[←e]at this;rw[this,h1];rfl
  ·rw[List.mapM_cons,hp.1,j];rfl
  ·rw[D2D,hp.2,m];rfl
def A1b(a:LinV)(ps:List (List UInt8×Int)):LinV:=ps.foldl A67 a
theorem A3n(l:List LTm): ∀(a:LinV),(∀t∈l,G7 (B t.v)=true)→A1b a (l.map fun t=>(B t.v,t.c))= {a with t:=a.t++l}:=by
 induction l with
 |nil=>intro a _;simp[A1b]
 |cons x l d=>
  intro a h;have hx:=A3m (h x (D07 ..));unfold A1b at d⊢;rw[D2D,List.foldl_cons];have e:A67 a (B x.v,x.c)= {a with t:=a.t++[x]}:=by unfold A67;rw[if_neg hx,S_B]
  rw[e,d _ (fun t g=>h t (D1E _ g))];simp
theorem B0T(a:LinV)(g:validL a=true): ∃ps,(P5 (M9 a)).mapM N4=some ps∧(P5 (M9 a)).map A3F=ps∧∀e,A1b ⟨[],0,e⟩ ps=⟨a.t,a.k,e⟩:=by
 unfold validL J7 at g;simp only[D09,D1I]at g;have hk:a.k.natAbs≤1099511627776:=by omega
 have hm:=L7 g.1.1;have o: ∀x∈dec a.k.natAbs,x.toNat≠43∧x.toNat≠45:=fun x hx=>by have:=Q2 _ x hx;omega
 have d: ∀f,P5 (A0W f a.k)= [A0W f a.k]:=fun f=>by
  have:=A44 (if a.k<0 then [45]else if f=true then []else [43]) (dec a.k.natAbs) [] (sign_or f a.k) (A8h _) o (fun c r e=>by cases e);rw[D1l,A3E]at this;exact this
 by_cases hn:a.t= []
 ·have e:M9 a=A0W true a.k:=by unfold M9 S6;rw[hn];simp[M2]
  refine⟨[([],a.k)],?_,?_,fun e=>?_⟩
  ·rw[e,d,List.mapM_cons,(A2g true a.k hk).1];rfl
  ·rw[e,d];simp only[D2D,List.map_nil,(A2g true a.k hk).2]
  ·rw[hn];simp[A1b,A67]
 ·have he:a.t.isEmpty=false:=by simp[hn]
  by_cases h:a.k=0
  ·have e:M9 a=M2 true a.t++[]:=by unfold M9 S6;rw[if_neg (by simp[hn,h])]
   obtain⟨ps,h1,i,j⟩:=A1a a.t true [] hm (fun c r e=>by cases e);rw[A3E,D1l ps]at h1;refine⟨a.t.map fun t=>(B t.v,t.c),?_,?_,fun e=>?_⟩
   ·rw[e,h1];exact i
   ·rw[e,h1];exact j
   ·rw[A3n _ _ (fun t m=>(hm t m).1),h];simp
  ·have e:M9 a=M2 true a.t++A0W false a.k:=by unfold M9 S6;rw[if_pos (.inr h),he]
   obtain⟨ps,h1,i,j⟩:=A1a a.t true (A0W false a.k) hm (B9f a.k);rw[d]at h1;refine⟨(a.t.map fun t=>(B t.v,t.c))++[([],a.k)],?_,?_,fun e=>?_⟩
   ·rw[e,h1,List.mapM_append,i,List.mapM_cons,(A2g false a.k hk).1];rfl
   ·rw[e,h1,D1w,j,D2D,List.map_nil,(A2g false a.k hk).2]
   ·have:=A3n a.t ⟨[],0,e⟩ (fun t m=>(hm t m).1);unfold A1b at this⊢;rw[D1o,this];simp[A67]
theorem B6Q(a:LinV)(d:validL a=true): ∀c∈M9 a,c.toNat≠61∧c.toNat≠62:=by
 unfold validL at d;simp only[D09]at d;have hm:=L7 d.1.1;have key: ∀(l:List LTm) (f:Bool),(∀t∈l,G7 (B t.v)=true)→∀c∈M2 f l,c.toNat≠61∧c.toNat≠62:=by
  intro l
  induction l with
  |nil=>intro f _ c hc;cases hc
  |cons t l i=>
   intro f h c hc;rw[M2]at hc;rcases D1M.1 hc with g|g
   ·have e:U8 f t=(if t.c<0 then [45]else if f=true then []else [43])++A1r t:=rfl;rw[e]at g;rcases D1M.1 g with g|g
    ·rcases sign_or f t.c with q|q|q<;>rw[q]at g
     ·cases g
     ·rw[D1N]at g;subst g;decide
     ·rw[D1N]at g;subst g;decide
    ·have:=A2D t (h t (D07 ..)) c g;exact⟨this.2.2.2,this.2.2.1⟩
   ·exact i false (fun x hx=>h x (D1E _ hx)) c g
 intro c hc;unfold M9 at hc;rcases D1M.1 hc with g|g
 ·exact key a.t true (fun t j=>(hm t j).1) c g
 ·unfold S6 at g;split at g
  ·unfold A0W at g;rcases D1M.1 g with g|g
   ·rcases sign_or a.t.isEmpty a.k with q|q|q<;>rw[q]at g
    ·cases g
    ·rw[D1N]at g;subst g;decide
    ·rw[D1N]at g;subst g;decide
   ·have:=Q2 _ c g;omega
  ·cases g
def A45(s:List UInt8):Option LinV:=
 if Lib.hasSuffix s [61,48]=true then
  let b:=Lib.trimSuffix s [61,48]
  ((P5 (Lib.trimSuffix b [62])).mapM N4).map (A1b ⟨[],0,!Lib.hasSuffix b [62]⟩)
 else none
def A7Y(c:UInt8):Bool:=c==61||c==62
def A46(s:List UInt8):LinV:=
 A1b ⟨[],0,decide ((s.dropWhile (!A7Y ·)).head?=some 61)⟩ ((P5 (s.takeWhile (!A7Y ·))).map A3F)
theorem A8k(l m:List UInt8):Lib.hasSuffix (l++m) m=true∧Lib.trimSuffix (l++m) m=l:=by
 have h:Lib.hasSuffix (l++m) m=true:=by unfold Lib.hasSuffix;rw[List.isSuffixOf_iff_suffix];exact List.suffix_append ..
 refine⟨h,?_⟩;unfold Lib.trimSuffix;rw[if_pos h];simp
theorem C3b(l:List UInt8)(c:UInt8)(h: ∀x∈l,x≠c):Lib.hasSuffix l [c]=false∧Lib.trimSuffix l [c]=l:=by
 have h:Lib.hasSuffix l [c]=false:=by
  rw[←D2I];unfold Lib.hasSuffix;rw[List.isSuffixOf_iff_suffix];rintro⟨r,e⟩;exact h c (by rw[←e];simp) rfl
 refine⟨h,?_⟩;unfold Lib.trimSuffix;rw[if_neg (by simp[h])]
theorem A7Z(a:LinV)(j:validL a=true):A45 (F8 a)=some a∧A46 (F8 a)=a:=by
 have hb:=B6Q a j;obtain⟨ps,h1,m,o⟩:=B0T a j;have i: ∀x∈M9 a,x≠62:=fun x hx e=>(hb x hx).2 (by rw[e];rfl);have nst: ∀x∈M9 a,(!A7Y x)=true:=fun x hx=>by
  have:=hb x hx;have e1:x≠61:=fun e=>this.1 (by rw[e];rfl);have e2:x≠62:=fun e=>this.2 (by rw[e];rfl);simp[A7Y,e1,e2]
 unfold A45 A46 F8;cases he:a.e with
 |true=>
  simp only[if_true];have d:=A8k (M9 a) [61,48];have g:=C3b (M9 a) 62 i;have h:=T4 (p:=(!A7Y ·)) (l:=M9 a) (R:=[61,48]) nst (fun c r e=>by cases e;decide);rw[if_pos d.1,d.2,g.2,g.1,h.1,h.2,h1,m];have:=o true;refine⟨?_,?_⟩
  ·simp only[Option.map_some,D2L,this];cases a;simp_all
  ·simp only[List.head?_cons,decide_true,this];cases a;simp_all
 |false=>
  simp only[D1C,if_false];have e2:M9 a++[62,61,48]=M9 a++[62]++[61,48]:=by simp
  have d:=A8k (M9 a++[62]) [61,48];have g:=A8k (M9 a) [62];have h:=T4 (p:=(!A7Y ·)) (l:=M9 a) (R:=[62,61,48]) nst (fun c r e=>by cases e;decide);rw[h.1,h.2,m,e2,if_pos d.1,d.2,g.2,g.1,h1];have:=o false;refine⟨?_,?_⟩
  ·simp only[Option.map_some,D2K,this];cases a;simp_all
  ·have e3:decide ((62::[61,48]:List UInt8).head?=some 61)=false:=by decide
   rw[e3,this];cases a;simp_all
def A0x(s:List UInt8):Option LinV:=(A45 s).bind fun a=>if validL a=true∧F8 a=s then some a else none
theorem B6R(s:List UInt8):A0x s=if validL (A46 s)=true∧F8 (A46 s)=s then some (A46 s)else none:=by
 unfold A0x;by_cases h: ∃a,validL a=true∧F8 a=s
 ·obtain⟨a,d,rfl⟩:=h;obtain⟨h1,e⟩:=A7Z a d;rw[h1,e];rfl
 ·have n: ∀a,¬(validL a=true∧F8 a=s):=fun a g=>h ⟨a,g⟩;rw[if_neg (n _)];cases A45 s with
  |none=>rfl
  |some a=>show (if _ then _ else _)=_;rw[if_neg (n a)]
theorem B0U(a:LinV)(d:validL a=true):A0x (F8 a)=some a:=by
 unfold A0x;rw[(A7Z a d).1];show (if _ then _ else _)=_;rw[if_pos ⟨d,rfl⟩]
def nilL:LinV:=⟨[],0,false⟩
def X1(a:LinV):LinV×Int:=if validL a=true then(a,0)else(nilL,3)
def B0V(l:List LTm)(s:ByteArray):Int:=match l with
 | []=>0
 |t::l=>if t.v=s then t.c else B0V l s
theorem B14{l:List LTm}(h:W9 l=true):l.Pairwise fun x y=>W8 x.v y.v=true:=by
 have key: ∀(j i:Nat) (d:i<l.length) (g:i+j+1<l.length),W8 l[i].v l[i+j+1].v=true:=by
  intro j
  induction j with
  |zero=>intro i d g;exact(A2E h g).2.2.2 (by omega) (by omega)
  |succ j m=>intro i d g;exact Z6 (m i d (by omega)) ((A2E h g).2.2.2 (by omega) (by omega))
 rw[List.pairwise_iff_getElem];intro i j d g o;have:=key (j-i-1) i d (by omega);have e:i+(j-i-1)+1=j:=by omega
 simp only[e]at this;exact this
def J1(a:LinV)(n:Int):LinV:=⟨if n=0 then []else a.t.map fun t=>⟨t.v,t.c*n⟩,a.k*n,a.e⟩
def A8l(a:LinV):LinV:={J1 a (-1)with k:=a.k* -1-1}
def negateR(a:LinV):LinV×Int:=if validL a=true then(if a.e=true then(nilL,5)else X1 (A8l a))else(nilL,2)
def B15(a:LinV)(n:Int):Bool:=decide (n=0)||(decide (0<n)&& !a.e)
def okV(l:List VlV)(i:Nat):Bool:=G7 (B (l.getD i default).v)&&(decide (i=0)||W8 (l.getD (i-1) default).v (l.getD i default).v)&&J7 (l.getD i default).n 2147483647
def N7(l:List VlV):Bool:=(List.range l.length).all (okV l)&&decide (l.length≤24)
def P6(l:List VlV)(s:ByteArray):Option Int:=match l with
 | []=>none
 |x::l=>if x.v=s then some x.n else P6 l s
def U5(k:Int)(l:List LTm)(vs:List VlV):Option Int:=match l with
 | []=>some k
 |t::l=>match P6 vs t.v with
  |none=>none
  |some n=>U5 (k+t.c*n) l vs
theorem B4c{l:List VlV}{s:ByteArray}(h: ∀x∈l,x.v≠s):P6 l s=none:=by
 induction l with
 |nil=>rfl
 |cons x l d=>rw[P6,if_neg (h x (D07 ..)),d (fun y e=>h y (D1E _ e))]
theorem A8m{l:List VlV}(h:N7 l=true){i:Nat}(j:i<l.length):G7 (B l[i].v)=true∧l[i].n.natAbs≤2147483647∧(∀d:i-1<l.length,0<i→W8 l[i-1].v l[i].v=true):=by
 unfold N7 at h;rw[D09]at h;have:=D1X.1 h.1 i (List.mem_range.2 j);unfold okV J7 at this;have e:l.getD i default=l[i]:=by simp[j]
 have e2: ∀d:i-1<l.length,l.getD (i-1) default=l[i-1]:=fun d=>by simp[d]
 rw[e]at this;simp only[D09,D2J,D1I]at this;refine⟨this.1.1,by omega,fun d m=>?_⟩;rcases this.1.2 with g|g
 ·omega
 ·rw[e2 d]at g;exact g
theorem A7a{l:List VlV}(h:N7 l=true): ∀(i j:Nat) (d:i<l.length) (g:j<l.length),i<j→W8 l[i].v l[j].v=true:=by
 have key: ∀(j i:Nat) (d:i<l.length) (g:i+j+1<l.length),W8 l[i].v l[i+j+1].v=true:=by
  intro j
  induction j with
  |zero=>intro i d g;exact(A8m h g).2.2 (by omega) (by omega)
  |succ j m=>intro i d g;exact Z6 (m i d (by omega)) ((A8m h g).2.2 (by omega) (by omega))
 intro i j d g o;have:=key (j-i-1) i d (by omega);have e:i+(j-i-1)+1=j:=by omega
 simp only[e]at this;exact this
theorem A8n{l:List VlV}(h:N7 l=true){s:ByteArray}{i:Nat}(r:i≤l.length)(h1: ∀(k:Nat) (hk:k<l.length),k<i→W8 l[k].v s=true)(o: ∀hk:i<l.length,W8 l[i].v s=false):
  P6 l s=if hk:i<l.length then(if l[i].v=s then some l[i].n else none)else none:=by
 have key: ∀(m:List VlV) (i:Nat),(∀(k:Nat) (hk:k<m.length),k<i→m[k].v≠s)→(∀(k:Nat) (hk:k<m.length),i<k→m[k].v≠s)→P6 m s=if hk:i<m.length then(if m[i].v=s then some m[i].n else none)else none:=by
  intro m
  induction m with
  |nil=>intro i _ _;simp[P6]
  |cons x m p=>
   intro i a b;rw[P6];cases i with
   |zero=>
    have e:P6 m s=none:=B4c fun y q=>by
     obtain⟨k,hk,rfl⟩:=List.getElem_of_mem q;exact b (k+1) (by simpa using hk) (by omega)
    rw[e];simp
   |succ i=>
    rw[if_neg (show¬x.v=s from a 0 (by simp) (by omega)),p i (fun k hk d=>a (k+1) (by simpa using hk) (by omega)) (fun k hk d=>b (k+1) (by simpa using hk) (by omega))];simp
 refine key l i (fun k hk d e=>?_) (fun k hk d e=>?_)
 ·have:=h1 k hk d;rw[e,w9]at this;cases this
 ·have g:=A7a h i k (by omega) hk d;have j:=o (by omega);rw[e]at g;rw[g]at j;cases j
end Go.Lin
