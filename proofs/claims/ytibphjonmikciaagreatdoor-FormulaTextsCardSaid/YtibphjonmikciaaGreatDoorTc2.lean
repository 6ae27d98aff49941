/- Part of the proof: what the last text builds on. No condition stands here. -/
import Derived.Test.YtibphjonmikciaaGreatDoorProg
import Derived.Test.YtibphjonmikciaaGreatDoorRows
import Derived.Test.YtibphjonmikciaaGreatDoorCards
import Derived.Test.YtibphjonmikciaaGreatDoorTie
import Derived.Test.YtibphjonmikciaaGreatDoorTc1
set_option linter.unusedSimpArgs false
set_option linter.unusedVariables false
namespace Go.Av
abbrev FEnv:=Nat→D
def FEnv.put(F:FEnv):Option Nat→D→FEnv
 |some t,d=>fun k=>if t=k then d else F k
 |none,_=>F
def FEnv.ev(F:FEnv):Operand→D
 | .tmp t=>F t
 | .const v=>D.ofValue v
 | .global g=>.glob g
 | .func f=>.fn (.func f) [] []
def T1:D→List Nat
 | .vec b _ _ _| .box b _=>[b]
 |_=>[]
def rdB:D→List Nat
 | .box b _| .el b _ _ _| .vec b _ _ _| .map b| .glob b=>[b]
 | .fn _ as_ bs=>(as_++bs).flatMap T1
 |_=>[]
theorem A16{d:D}{b:Nat}(h:b∈T1 d):b∈rdB d:=by cases d<;>simp_all[T1,rdB]
structure Ef where
 rd:List Nat
 del:List Nat
 new:Option Obj
 at_:Option Nat
 val:Nat→D
def Ef.app(e:Ef)(b:Nat)(H:Heap):Heap:=match e.new with
 |none=>H.minus e.del
 |some o=>(H.minus e.del).set b o
def Ef.okB(e:Ef)(b:Nat)(U:Nat→Prop):Prop:=match e.new,e.at_ with
 |none,_=>True
 |some _,some c=>b=c
 |some _,none=>¬U b∨b∈e.del
def Ef.used(e:Ef)(b:Nat)(U:Nat→Prop):Nat→Prop:=match e.new with
 |none=>U
 |some _=>fun k=>U k∨k=b
def B2O(o:Option Obj):Bool:=match o with
 |some o=>o.rw
 |none=>false
structure Bl where
 l:List Nat
 no:List Nat:=[]
 may:List Nat:=[]
def A4i(Bi Bj:Bl):Prop:=(∀b∈Bj.l,b∉Bj.no→b∈Bi.l∧b∉Bi.may)∧∀b∈Bi.l,b∉Bi.no→b∈Bj.l∧b∉Bj.may
structure A6h(bl:Bl)(H:Heap)(e:Ef):Prop where
 rd: ∀b∈e.rd,(b∈bl.l∧H b≠none)∧b∉bl.no
 del: ∀b∈e.del,(e.at_=none→b∉bl.l∨b∈bl.may)∧B2O (H b)=true
 new: ∀o,e.new=some o→o.rw=true
 at_: ∀b,e.at_=some b→b∈e.del
def val(d:D)(rd:List Nat):Ef:=⟨rd,[],none,none,fun _=>d⟩
def A06(f:Nat→D)(o:Obj):Ef:=⟨[],[],some o,none,f⟩
def T3(bl:List Nat)(l:List Nat):List Nat:=l.filter fun b=> !bl.contains b
def inB(bl:List Nat)(l:List Nat):List Nat:=l.filter fun b=>bl.contains b
def B2P(P:Program)(bl:List Nat)(H:Heap)(t t':TypeId)(s x:D):Option Ef:=(G7 P t).bind fun T=>
 if 0<T.2.1∧(C6 P t'= .slice∨C6 P t'= .str)∧(G1 P T.1).map (·.length)=some T.2.1 then(M6 H T.2.1 x).bind fun xs=>match s with
  | .nilsl=>if xs.length*T.2.2≤140737488355328∧xs.length≤9223372036854775807∧xs.isEmpty=false then some ⟨inB bl (T1 x),T3 bl (T1 x),some (.vec T.2.1 xs),none,fun b=>.vec b T.2.1 0 xs.length⟩else none
  | .vec b sz' lo n=>match H b with
   |some (.vec sz'' es)=>if sz'=T.2.1∧sz''=T.2.1∧lo=0∧n≤es.length∧(n+xs.length)*T.2.2≤140737488355328∧n+xs.length≤9223372036854775807 then
     some ⟨inB bl (T1 x),b::T3 bl (T1 x),some (.vec T.2.1 (es.take n++xs)),none,fun b'=>.vec b' T.2.1 0 (n+xs.length)⟩else none
   |_=>none
  |_=>none else none
def bsE(P:Program)(t:TypeId)(len:Nat)(ps:List (Nat×D)):Option Ef:=(G7 P t).bind fun T=>if 0<T.2.1∧len*T.2.1≤16777216 then(G1 P T.1).bind fun z=>
 if z.length=T.2.1 then(A4a (List.replicate len z) ps).map fun es=>A06 (fun b=>.vec b T.2.1 0 len) (.vec T.2.1 es)else none else none
def msE(P:Program)(t:TypeId)(l c:D):Option Ef:=(G7 P t).bind fun T=>if 0<T.2.1 then(G1 P T.1).bind fun z=>match l,c with
 | .int _ n,.int _ m=>if z.length=T.2.1∧0≤n∧n≤m∧(T.2.2:Int)*m≤281474976710656∧m<9223372036854775808 then some (A06 (fun b=>.vec b T.2.1 0 n.toNat) (.vec T.2.1 (List.replicate n.toNat z)))else none
 |_,_=>none else none
theorem A52{P:Program}{t:TypeId}{l c:D}{e:Ef}(h:msE P t l c=some e): ∃e' sz d z k n i m,G7 P t=some (e',sz,d)∧0<sz∧G1 P e'=some z∧z.length=sz∧l= .int k n∧c= .int i m∧0≤n∧n≤m∧(d:Int)*m≤281474976710656∧m<9223372036854775808∧
  e=A06 (fun b=>.vec b sz 0 n.toNat) (.vec sz (List.replicate n.toNat z)):=by
 unfold msE at h;obtain⟨⟨e',sz,d⟩,j,h⟩:=D1l.1 h;split at h
 ·rename_i h1;obtain⟨z,o,h⟩:=D1l.1 h;split at h
  ·split at h
   ·rename_i g;cases h;exact⟨e',sz,d,z,_,_,_,_,j,h1,o,g.1,rfl,rfl,g.2.1,g.2.2.1,g.2.2.2.1,g.2.2.2.2,rfl⟩
   ·cases h
  ·cases h
 ·cases h
theorem C3G{P:Program}{t:TypeId}{e' sz d:Nat}{z:List D}{k e:IntKind}{n m:Int}(g:G7 P t=some (e',sz,d))(h1:0<sz)(h:G1 P e'=some z)(i:z.length=sz)(j:0≤n)(o:n≤m)(h5:(d:Int)*m≤281474976710656)(p:m<9223372036854775808):
  msE P t (.int k n) (.int e m)=some (A06 (fun b=>.vec b sz 0 n.toNat) (.vec sz (List.replicate n.toNat z))):=by
 unfold msE;rw[g,D13,if_pos h1,h,D13];simp only[];rw[if_pos ⟨i,j,o,h5,p⟩]
def w9(P:Program)(t:TypeId)(a x:D)(H:Heap):Option Ef:=(Z5 P t a x H).bind fun H'=>match a with
 | .box b _| .el b _ _ _=>(H' b).map fun o=>⟨[],[b],some o,some b,fun _=>.undef⟩
 |_=>none
structure CR where
 new:Option Obj
 val:Nat→D
def CR.c(d:D):CR:=⟨none,fun _=>d⟩
def CR.f(c:CR):Nat→D:=match c.new with
 |none=>fun _=>c.val 0
 |some _=>c.val
def CR.mk'(f:Nat→D)(o:Obj):CR:=⟨some o,f⟩
def I5(P:Program)(c:CR)(bl:List Nat)(ev:Operand→D)(H:Heap)(op:Op):Option Ef:=match op with
 | .load t x=>(A0H P t (ev x) H).map fun d=>val d (rdB (ev x))
 | .lookup t m k ok=>(A1U P t (ev m) (ev k) ok H).map fun d=>val d (rdB (ev m))
 | .alloc t=>(G1 P t).map fun z=>A06 (fun b=>.box b 0) (.box z (A1y P t))
 | .box _ x=>if(ev x).cells.all D.one=true then some (A06 (fun b=>.box b 0) (.box (ev x).cells))else none
 | .buildSlice t len parts=>bsE P t len (parts.toList.map fun p=>(p.1,ev p.2))
 | .makeSlice t l c=>msE P t (ev l) (ev c)
 | .makeMap _ none=>some (A06 (fun b=>.map b) (.map []))
 | .store t a x=>w9 P t (ev a) (ev x) H
 | .call ⟨.builtin .append,args,ts⟩=>match ts.toList,args.toList with
  | [t,t'],[s,x]=>B2P P bl H t t' (ev s) (ev x)
  |_,_=>none
 | .call ⟨.value f,args,ts⟩=>match ev f with
  | .fn (.func _) first cap=>some ⟨inB bl ((first++args.toList.map ev++cap).flatMap T1),T3 bl ((first++args.toList.map ev++cap).flatMap T1),c.new,none,c.f⟩
  |_=>none
 |_=>none
def x9(P:Program)(c:CR)(bl:List Nat)(ev:Operand→D)(H:Heap)(op:Op):Option Ef:=if I4 P op= .pure then(L2 P ev op).map fun d=>val d []else I5 P c bl ev H op
def CR.post(c:CR)(H':Heap)(del:List Nat)(d:D)(H'':Heap):Prop:=match c.new with
 |none=>d=c.val 0∧(H'.minus del).Le H''
 |some o=>∃b,(H' b=none∨b∈del)∧d=c.val b∧((H'.minus del).set b o).Le H''
def B6I(P:Program)(g:Nat)(as_:List D)(H:Heap)(foot del:List Nat)(c:CR):Prop:=
 ∀H':Heap,(∀k cs,H k=some (.ro cs)→H' k=some (.ro cs))→(∀b∈foot,H' b=H b)→ACalls P g as_ H' (c.post H' del)
def P5(P:Program)(c:CR)(bl:List Nat)(ev:Operand→D)(H:Heap)(op:Op):Prop:=match op with
 | .call ⟨.value f,args,ts⟩=>match ev f with
  | .fn (.func g) first cap=>B6I P g (first++args.toList.map ev++cap) H ((first++args.toList.map ev++cap).flatMap T1) (T3 bl ((first++args.toList.map ev++cap).flatMap T1)) c
  |_=>False
 |_=>True
section
variable {P:Program} {c:CR} {bl:List Nat} {bb Bi Bj:Bl} {ev ev':Operand→D} {H H':Heap}
theorem y0{l:List Nat}{b:Nat}:b∈inB bl l↔b∈l∧b∈bl:=by simp[inB]
theorem T4{l:List Nat}{b:Nat}:b∈T3 bl l↔b∈l∧b∉bl:=by simp[T3]
theorem A3F{l:List Operand}(h: ∀x∈l,ev x=ev' x):l.map ev=l.map ev':=List.map_congr_left h
theorem A6i{l:List (Nat×Operand)}(h: ∀x∈l.map (·.2),ev x=ev' x):(l.map fun p=>(p.1,ev p.2))=l.map fun p=>(p.1,ev' p.2):=
 List.map_congr_left fun p hp=>by rw[h p.2 (D2X.2 ⟨p,hp,rfl⟩)]
theorem A17{op:Op}(hc:I4 P op= .pure)(h: ∀x∈op.operands.toList,ev x=ev' x):L2 P ev op=L2 P ev' op:=by
 cases op
 case build t parts=>
  simp only[L2,A6i (ev:=ev) (ev':=ev') (l:=parts.toList) (fun x hx=>h x (by simpa [Op.operands]using hx))]
 case slice t x lo hi m=>
  have hx:=h x (by simp[Op.operands]);have j:lo.map ev=lo.map ev':=by
   cases lo with
   |none=>rfl
   |some l=>simp only[Option.map_some,h l (by simp[Op.operands])]
  have o:hi.map ev=hi.map ev':=by
   cases hi with
   |none=>rfl
   |some l=>simp only[Option.map_some,h l (by simp[Op.operands])]
  cases m<;>simp only[L2,hx,j,o]
 case makeFunc fn first cap=>
  simp only[L2,A3F (l:=first.toList) (fun x hx=>h x (by simp[Op.operands];exact .inl (by simpa using hx))),A3F (l:=cap.toList) (fun x hx=>h x (by simp[Op.operands];exact .inr (by simpa using hx)))]
 case call cc=>
  obtain⟨callee,args,g⟩:=cc;cases callee with
  |value f=>simp[I4]at hc
  |invoke r m=>simp[I4]at hc
  |builtin b=>
   have i: ∀x∈args.toList,ev x=ev' x:=fun x hx=>h x (by simp[Op.operands,Call.operands]at*;exact hx);cases b<;>try(simp[I4]at hc;done)
   case len=>
    simp only[L2];cases h1:g[0]? with
    |none=>rfl
    |some t=>
     cases p:args[0]? with
     |none=>rfl
     |some x=>simp only[i x (by rw[D2E];exact Array.mem_of_getElem? p)]
   case cap=>
    simp only[L2];cases h1:g[0]? with
    |none=>rfl
    |some t=>
     cases p:args[0]? with
     |none=>rfl
     |some x=>simp only[Option.map_some,i x (by rw[D2E];exact Array.mem_of_getElem? p)]
   case min=>simp only[L2,A3F i]
   case max=>simp only[L2,A3F i]
 all_goals first
  |rfl
  |(simp only[Op.operands,Array.toList_toArray,D11,D12,or_false,d,e]at h;simp only[L2,h];done)
  |(simp only[Op.operands]at h;simp at h;simp only[L2,h];done)
  |(simp[I4]at hc;done)
theorem U8{op:Op}(hc:I4 P op= .pure):x9 P c bl ev H op=(L2 P ev op).map fun d=>val d []:=if_pos hc
theorem I7{op:Op}(hc:I4 P op≠ .pure):x9 P c bl ev H op=I5 P c bl ev H op:=if_neg hc
theorem A0J{op:Op}(h: ∀x∈op.operands.toList,ev x=ev' x):x9 P c bl ev H op=x9 P c bl ev' H op:=by
 by_cases hc:I4 P op= .pure
 ·rw[U8 hc,U8 hc,A17 hc h]
 ·rw[I7 hc,I7 hc];cases op
  case load t x=>simp only[I5,h x (by simp[Op.operands])]
  case lookup t m k ok=>simp only[I5,h m (by simp[Op.operands]),h k (by simp[Op.operands])]
  case box t x=>simp only[I5,h x (by simp[Op.operands])]
  case makeSlice t l c=>simp only[I5,h l (by simp[Op.operands]),h c (by simp[Op.operands])]
  case buildSlice t n parts=>simp only[I5,A6i (ev:=ev) (ev':=ev') (l:=parts.toList) (fun x hx=>h x (by simpa [Op.operands]using hx))]
  case store t a x=>simp only[I5,h a (by simp[Op.operands]),h x (by simp[Op.operands])]
  case call cc=>
   obtain⟨callee,args,e⟩:=cc;cases callee with
   |value f=>
    have g:=h f (by simp[Op.operands,Call.operands]);have i:=A3F (ev:=ev) (ev':=ev') (l:=args.toList) (fun x hx=>h x (by simp[Op.operands,Call.operands];exact .inr (by simpa using hx)));simp only[I5,g,i]
   |invoke r m=>simp[I5]
   |builtin b=>
    cases b
    case append=>
     unfold I5;simp only;split
     ·rename_i t j s x h1 d;rw[h s (by simp[Op.operands,Call.operands,←D2E,d]),h x (by simp[Op.operands,Call.operands,←D2E,d])]
     ·rfl
    all_goals rfl
  case makeMap t r=>cases r<;>simp[I5]
  all_goals first
   |rfl
theorem y3{op:Op}(h: ∀x∈op.operands.toList,ev x=ev' x):P5 P c bl ev H op=P5 P c bl ev' H op:=by
 cases op
 case call cc=>
  obtain⟨callee,args,d⟩:=cc;cases callee with
  |value f=>
   have e:=h f (by simp[Op.operands,Call.operands]);have g:=A3F (ev:=ev) (ev':=ev') (l:=args.toList) (fun x hx=>h x (by simp[Op.operands,Call.operands];exact .inr (by simpa using hx)));simp only[P5,e,g]
  |_=>rfl
 all_goals rfl
def B3Y(ev:Operand→D)(op:Op):List Nat:=op.operands.toList.flatMap fun x=>rdB (ev x)
theorem N6{op:Op}{x:Operand}{b:Nat}(hx:x∈op.operands.toList)(hb:b∈rdB (ev x)):b∈B3Y ev op:=List.mem_flatMap.2 ⟨x,hx,hb⟩
theorem B0e{sz:Nat}{x:D}{es:List (List D)}(h:M6 H sz x=some es)(d: ∀b∈T1 x,H' b=H b):M6 H' sz x=some es:=by
 cases x<;>simp only[M6]at h⊢ <;>try exact h
 rename_i b s lo n;rw[d b (by simp[T1])];exact h
theorem A7w{x:D}{cs:List D}(h:A4Z H x=some cs)(d: ∀b∈rdB x,H' b=H b):A4Z H' x=some cs:=by
 cases x<;>simp only[A4Z]at h⊢ <;>try exact h
 all_goals (rw[d _ (by simp[rdB])];exact h)
theorem B4k{x:D}{kvs:List (D×D)}(h:Y9 H x=some kvs)(d: ∀b∈rdB x,H' b=H b):Y9 H' x=some kvs:=by
 cases x<;>simp only[Y9]at h⊢ <;>try exact h
 all_goals (rw[d _ (by simp[rdB])];exact h)
theorem A3G{op:Op}{e:Ef}(h:x9 P c bl ev H op=some e)(q: ∀b,b∈e.rd∨b∈e.del→H' b=H b):x9 P c bl ev H' op=some e:=by
  by_cases hc:I4 P op= .pure
  · rw[U8 hc]at h⊢;exact h
  · rw[I7 hc]at h⊢
    cases op
    case load t x=>
      simp only[I5,D1i]at h⊢;obtain⟨d,g,rfl⟩:=h;refine⟨d,?_,rfl⟩;unfold A0H at g⊢;obtain⟨s,hs,g⟩:=D1l.1 g;obtain⟨cs,u,g⟩:=D1l.1 g;rw[hs,D13,A7w u (fun b hb=>q b (.inl hb))];exact g
    case lookup t m k ok=>
      simp only[I5,D1i]at h⊢;obtain⟨d,g,rfl⟩:=h;refine⟨d,?_,rfl⟩;unfold A1U at g⊢;obtain⟨T,U,g⟩:=D1l.1 g;rw[U,D13];split at g
      · rename_i hk
        rw[if_pos hk];obtain⟨z,X,g⟩:=D1l.1 g;obtain⟨kvs,I,g⟩:=D1l.1 g;rw[X,D13,B4k I (fun b hb=>q b (.inl hb))];exact g
      · cases g
    case alloc t=>exact h
    case box t x=>exact h
    case makeSlice t l c=>exact h
    case buildSlice t n parts=>exact h
    case store t a x=>
      simp only[I5,w9]at h⊢;obtain⟨Y,hs,h⟩:=D1l.1 h
      have key: ∀b,(ev a= .box b 0∨True)→rdB (ev a)= [b]→H' b=H b→∃O,Z5 P t (ev a) (ev x) H'=some O∧O b=Y b:=by
        intro b _ J hb;unfold Z5 at hs⊢;split at hs
        · rename_i j
          rw[if_pos j];split at hs
          · rename_i L off y
            have : L = b := by have:rdB (ev a)= [L]:=by rw[y];rfl
                               rw[J]at this;simpa using this.symm
            subst this;rw[hb];split at hs
            · rename_i cs Z u
              split at hs
              · rename_i A
                cases hs;refine⟨_,by rw[if_pos A],?_⟩;simp[Heap.set]
              · cases hs
            · cases hs
          · rename_i L sz i off y
            have : L = b := by have:rdB (ev a)= [L]:=by rw[y];rfl
                               rw[J]at this;simpa using this.symm
            subst this;rw[hb];split at hs
            · rename_i sz' es u
              split at hs
              · rename_i A
                cases hs;refine⟨_,by rw[if_pos A],?_⟩;simp[Heap.set]
              · cases hs
            · cases hs
          · cases hs
        · cases hs
      cases C:ev a with
      |box b off=>
        rw[C]at h;simp only at h;obtain⟨o,ho,rfl⟩:=D1i.1 h;obtain⟨O,G,V⟩:=key b (.inr trivial) (by rw[C];rfl) (q b (.inr (by simp)));rw[C]at G;rw[G,D13];simp only[V,ho,Option.map_some]
      |el b sz i off=>
        rw[C]at h;simp only at h;obtain⟨o,ho,rfl⟩:=D1i.1 h;obtain⟨O,G,V⟩:=key b (.inr trivial) (by rw[C];rfl) (q b (.inr (by simp)));rw[C]at G;rw[G,D13];simp only[V,ho,Option.map_some]
      |_=>rw[C]at h;simp at h
    case call cc=>
      obtain⟨callee,args,a0⟩:=cc;cases callee with
      |value f=>exact h
      |invoke r m=>simp[I5]at h
      |builtin b=>
        cases b
        case append=>
          unfold I5 at h⊢;simp only at h⊢;split at h
          · rename_i t t' s x h1 G
            unfold B2P at h⊢;obtain⟨T,U,h⟩:=D1l.1 h;rw[U,D13];split at h
            · rename_i j
              rw[if_pos j];obtain⟨xs,W,h⟩:=D1l.1 h;have hx: ∀b,b∈T1 (ev x)→(b∈e.rd∨b∈e.del)→H' b=H b:=fun b _ hb=>q b hb
              have M: ∀b∈T1 (ev x),b∈e.rd∨b∈e.del:=by
                intro b hb;split at h
                · split at h
                  · cases h
                    by_cases p:b∈bl
                    · exact .inl (y0.2 ⟨hb,p⟩)
                    · exact .inr (T4.2 ⟨hb,p⟩)
                  · cases h
                · split at h
                  · split at h
                    · cases h
                      by_cases p:b∈bl
                      · exact .inl (y0.2 ⟨hb,p⟩)
                      · exact .inr (D1r _ (T4.2 ⟨hb,p⟩))
                    · cases h
                  · cases h
                · cases h
              rw[B0e W (fun b hb=>q b (M b hb)),D13];cases hs:ev s with
              |vec b sz' lo n=>
                rw[hs]at h;simp only at h⊢
                have hb:H' b=H b:=by
                  split at h
                  · split at h
                    · cases h;exact q b (.inr (by simp))
                    · cases h
                  · cases h
                rw[hb];exact h
              |_=>rw[hs]at h;exact h
            · cases h
          · cases h
        all_goals cases h
    case makeMap t r=>
      cases r with
      |none=>exact h
      |some r=>simp[I5]at h
    all_goals cases h
theorem A3o{op:Op}{e:Ef}(h:P5 P c bl ev H op)(hr:x9 P c bl ev H op=some e)(hro: ∀k cs,H' k=some (.ro cs)→H k=some (.ro cs))(d: ∀k cs,H k=some (.ro cs)→H' k=some (.ro cs))(j: ∀b,b∈e.rd∨b∈e.del→H' b=H b):P5 P c bl ev H' op:=by
 cases op
 case call cc=>
  obtain⟨callee,args,m⟩:=cc;cases callee with
  |value f=>
   rw[I7 (by simp[I4])]at hr;simp only[P5,I5]at h hr⊢;split at h
   ·rename_i g first cap hf
    rw[hf]at hr;simp only[D2B]at hr;subst hr;intro o h1 p;refine h o (fun k cs hk=>h1 k cs (d k cs hk)) (fun b hb=>?_);rw[p b hb];by_cases i:b∈bl
    ·exact j b (.inl (y0.2 ⟨hb,i⟩))
    ·exact j b (.inr (T4.2 ⟨hb,i⟩))
   ·exact h
  |_=>exact h
 all_goals exact h
theorem B4l{op:Op}{e:Ef}(h:x9 P c bl ev H op=some e): ∀b,b∈e.rd∨b∈e.del→b∈B3Y ev op:=by
 by_cases hc:I4 P op= .pure
 ·rw[U8 hc]at h;obtain⟨d,_,rfl⟩:=D1i.1 h;intro b hb;simp[val]at hb
 ·rw[I7 hc]at h;cases op
  case load t x=>
   simp only[I5,D1i]at h;obtain⟨d,j,rfl⟩:=h;intro b hb;simp[val]at hb;exact N6 (x:=x) (by simp[Op.operands]) hb
  case lookup t m k ok=>
   simp only[I5,D1i]at h;obtain⟨d,j,rfl⟩:=h;intro b hb;simp[val]at hb;exact N6 (x:=m) (by simp[Op.operands]) hb
  case alloc t=>
   simp only[I5,D1i]at h;obtain⟨d,j,rfl⟩:=h;intro b hb;simp[A06]at hb
  case box t x=>
   simp only[I5]at h;split at h
   ·cases h;intro b hb;simp[A06]at hb
   ·cases h
  case makeSlice t l c=>
   simp only[I5]at h;obtain⟨_,_,_,_,_,_,_,_,_,_,_,_,_,_,_,_,_,_,rfl⟩:=A52 h;intro b hb;simp[A06]at hb
  case buildSlice t n parts=>
   simp only[I5,bsE]at h;obtain⟨T,G,h⟩:=D1l.1 h;split at h
   ·obtain⟨z,L,h⟩:=D1l.1 h;split at h
    ·obtain⟨es,I,rfl⟩:=D1i.1 h;intro b hb;simp[A06]at hb
    ·cases h
   ·cases h
  case store t a x=>
   simp only[I5,w9]at h;obtain⟨M,hs,h⟩:=D1l.1 h;cases q:ev a with
   |box b off=>
    rw[q]at h;simp only at h;obtain⟨o,ho,rfl⟩:=D1i.1 h;intro k hk;simp at hk;subst hk;exact N6 (x:=a) (by simp[Op.operands]) (by rw[q];simp[rdB])
   |el b sz i off=>
    rw[q]at h;simp only at h;obtain⟨o,ho,rfl⟩:=D1i.1 h;intro k hk;simp at hk;subst hk;exact N6 (x:=a) (by simp[Op.operands]) (by rw[q];simp[rdB])
   |_=>rw[q]at h;simp at h
  case call cc=>
   obtain⟨callee,args,u⟩:=cc;cases callee with
   |value f=>
    simp only[I5]at h;split at h
    ·rename_i g first cap hf
     cases h;intro b hb;have y:b∈(first++args.toList.map ev++cap).flatMap T1:=by
      rcases hb with hb|hb
      ·exact(y0.1 hb).1
      ·exact(T4.1 hb).1
     obtain⟨d,j,p⟩:=List.mem_flatMap.1 y;simp only[D1z,D2X]at j;rcases j with(j|⟨x,hx,rfl⟩)|j
     ·exact N6 (x:=f) (by simp[Op.operands,Call.operands]) (by rw[hf];exact List.mem_flatMap.2 ⟨d,by simp[j],p⟩)
     ·exact N6 (x:=x) (by simp[Op.operands,Call.operands];exact .inr (by simpa using hx)) (A16 p)
     ·exact N6 (x:=f) (by simp[Op.operands,Call.operands]) (by rw[hf];exact List.mem_flatMap.2 ⟨d,by simp[j],p⟩)
    ·cases h
   |invoke r m=>simp[I5]at h
   |builtin b=>
    cases b
    case append=>
     unfold I5 at h;simp only at h;split at h
     ·rename_i t O s x h1 C;have hs:s∈(Op.call ⟨.builtin .append,args,u⟩).operands.toList:=by simp[Op.operands,Call.operands,←D2E,C]
      have hx:x∈(Op.call ⟨.builtin .append,args,u⟩).operands.toList:=by simp[Op.operands,Call.operands,←D2E,C]
      unfold B2P at h;obtain⟨T,G,h⟩:=D1l.1 h;split at h
      ·obtain⟨xs,J,h⟩:=D1l.1 h;split at h
       ·split at h
        ·cases h;intro b hb;rcases hb with hb|hb
         ·exact N6 hx (A16 (y0.1 hb).1)
         ·exact N6 hx (A16 (T4.1 hb).1)
        ·cases h
       ·rename_i U sz' lo n A;split at h
        ·split at h
         ·cases h;intro b hb;rcases hb with hb|hb
          ·exact N6 hx (A16 (y0.1 hb).1)
          ·rcases D11.1 hb with rfl|hb
           ·exact N6 hs (by rw[A];simp[rdB])
           ·exact N6 hx (A16 (T4.1 hb).1)
         ·cases h
        ·cases h
       ·cases h
      ·cases h
     ·cases h
    all_goals cases h
  case makeMap t r=>
   cases r with
   |none=>simp only[I5,D2B]at h;subst h;intro b hb;simp[A06]at hb
   |some r=>simp[I5]at h
  all_goals cases h
abbrev Kf:=FEnv→Heap→(Nat→Prop)→Prop
def I1(gs:List (Option Nat))(j:Nat):Option Nat:=(gs[j]?).getD none
def A18(E:Env)(s:Option Nat)(want:Bool)(run skip:Env→Prop):Prop:=match s with
 |none=>skip E
 |some s=>(E.get s= .tuple []∧skip E)∨∃b,E.get s= .bool b∧(b=want→run ((s,.bool want)::E))∧(b= !want→skip ((s,.bool (!want))::E))
def A23(gs:List (Option Nat))(F:FEnv):Option (Nat×Bool)→Option Bool
 |none=>some true
 |some (j,want)=>match I1 gs j with
  |none=>some false
  |some s=>match F s with
   | .tuple []=>some false
   | .bool b=>some (b==want)
   |_=>none
def A0c(P:Program)(c:CR)(bl:Bl)(o:Oper)(K:Kf):Kf:=fun F H U=>∃e,x9 P c bl.l F.ev H o.op=some e∧A6h bl H e∧P5 P c bl.l F.ev H o.op∧
 ∀b,e.okB b U→K (F.put o.dst (e.val b)) (e.app b H) (e.used b U)
def A0d(P:Program)(gs:List (Option Nat))(c:CR)(bl:Bl)(o:Oper)(K:Kf):Kf:=fun F H U=>(A23 gs F o.guard=some true∧A0c P c bl o K F H U)∨(A23 gs F o.guard=some false∧K (F.put o.dst (.tuple [])) H U)
theorem A1X{o:Oper}{K d:Kf}{F:FEnv}{H:Heap}{U:Nat→Prop}(h: ∀v H U,K (F.put o.dst v) H U→d (F.put o.dst v) H U)(hk:A0c P c bb o K F H U):A0c P c bb o d F H U:=
 let ⟨e,h2,h3,h4,h5⟩:=hk;⟨e,h2,h3,h4,fun b hb=>h _ _ _ (h5 b hb)⟩
theorem A1Y{d:List (Option Nat)}{o:Oper}{K e:Kf}(h: ∀F H U,K F H U→e F H U){F:FEnv}{H:Heap}{U:Nat→Prop}(hk:A0d P d c bb o K F H U):A0d P d c bb o e F H U:=
 hk.imp (fun hk=>⟨hk.1,A1X (fun _ _ _=>h _ _ _) hk.2⟩) fun hk=>⟨hk.1,h _ _ _ hk.2⟩
theorem C3H{F:FEnv}{dst:Option Tmp}{d:D}{x:Operand}(h: ∀t,dst=some t→x≠ .tmp t):(F.put dst d).ev x=F.ev x:=by
 cases dst with
 |none=>rfl
 |some t=>
  cases x with
  |tmp u=>
   have:t≠u:=fun e=>h t rfl (by rw[e]);simp[FEnv.ev,FEnv.put,this]
  |_=>rfl
theorem R0{F:FEnv}{ops:Array Oper}{o:Oper}{dst:Option Tmp}{d:D}(h: ∀t,dst=some t→t∉o.looksAt ops): ∀x∈o.op.operands.toList,(F.put dst d).ev x=F.ev x:=fun x hx=>
 C3H fun t g e=>h t g (by subst e;exact List.mem_append_left _ (List.mem_filterMap.2 ⟨.tmp t,hx,rfl⟩))
theorem A19{F:FEnv}{x y:Option Tmp}{d d':D}(h: ∀t,x=some t→y≠some t):(F.put x d).put y d'=(F.put y d').put x d:=by
 funext k
 cases x with
 |none=>rfl
 |some t=>
  cases y with
  |none=>rfl
  |some u=>
   have:t≠u:=fun e=>h t rfl (by rw[e]);simp only[FEnv.put];by_cases h1:t=k<;>by_cases g:u=k<;>simp[h1,g];exact absurd (h1.trans g.symm) this
structure Dom(H:Heap)(U:Nat→Prop):Prop where
 dom: ∀b,H b≠none→U b
 fin: ∀l:List Nat,∃b,¬U b∧b∉l
theorem Dom.app{H:Heap}{U:Nat→Prop}(h:Dom H U){e:Ef}{b:Nat}(hb:e.okB b U):Dom (e.app b H) (e.used b U):=by
 have hm: ∀k,(H.minus e.del) k≠none→U k:=fun k hk=>h.dom k fun i=>hk (by unfold Heap.minus;split;rfl;exact i);unfold Ef.app Ef.used;cases hn:e.new with
 |none=>exact⟨hm,h.fin⟩
 |some o=>
  refine⟨fun k hk=>?_,fun l=>?_⟩
  ·by_cases d:k=b
   ·exact .inr d
   ·simp only[Heap.set,if_neg d]at hk;exact .inl (hm k hk)
  ·obtain⟨x,h1,g⟩:=h.fin (b::l);simp only[D11,not_or]at g;exact⟨x,fun hx=>hx.elim h1 g.1,g.2⟩
theorem A2d{e:Ef}{b k:Nat}{H:Heap}(d:k∉e.del)(hb:e.new≠none→k≠b):e.app b H k=H k:=by
 unfold Ef.app;cases hn:e.new with
 |none=>simp[Heap.minus,d]
 |some o=>simp[Heap.set,Heap.minus,d,hb (by rw[hn];simp)]
theorem B6J{e:Ef}{b k:Nat}{H:Heap}{cs:List D}(h:A6h bb H e)(hk:e.app b H k=some (.ro cs)):H k=some (.ro cs):=by
 unfold Ef.app at hk;have hm:(H.minus e.del) k=some (.ro cs)→H k=some (.ro cs):=fun hk=>by
  unfold Heap.minus at hk;split at hk
  ·cases hk
  ·exact hk
 cases hn:e.new with
 |none=>rw[hn]at hk;exact hm hk
 |some o=>
  rw[hn]at hk;simp only[Heap.set]at hk;split at hk
  ·cases hk;have:=h.new _ hn;simp[Obj.rw]at this
  ·exact hm hk
theorem B3Z{e:Ef}{b k:Nat}{H:Heap}{U:Nat→Prop}{cs:List D}(h:A6h bb H e)(j: ∀b,H b≠none→U b)(hb:e.okB b U)(hk:H k=some (.ro cs)):e.app b H k=some (.ro cs):=by
 have i:k∉e.del:=fun i=>by have:=(h.del k i).2;rw[hk]at this;simp[B2O,Obj.rw]at this
 rw[A2d i fun hn he=>?_]
 ·exact hk
 ·subst he;unfold Ef.okB at hb;cases d:e.new with
  |none=>exact hn d
  |some o=>
   rw[d]at hb;cases g:e.at_ with
   |none=>
    rw[g]at hb;rcases hb with hb|hb
    ·exact hb (j k (by rw[hk];simp))
    ·exact i hb
   |some c=>
    rw[g]at hb;subst hb;exact i (h.at_ _ g)
theorem B6K{i j:Ef}{bi e:Nat}{H:Heap}(h1: ∀b∈i.del,b∉j.del)(g:i.new≠none→j.new≠none→bi≠e)(h:i.new≠none→bi∉j.del)(d:j.new≠none→e∉i.del):j.app e (i.app bi H)=i.app bi (j.app e H):=by
 funext k
 unfold Ef.app;cases q:i.new with
 |none=>
  cases m:j.new with
  |none=>simp only[Heap.minus];by_cases x:k∈i.del<;>by_cases y:k∈j.del<;>simp[x,y]
  |some o=>
   rw[m]at d;have d:=d (by simp);simp only[Heap.minus,Heap.set];by_cases z:k=e
   ·subst z;simp[d]
   ·by_cases x:k∈i.del<;>by_cases y:k∈j.del<;>simp[x,y,z]
 |some r=>
  rw[q]at g h;have h:=h (by simp);cases m:j.new with
  |none=>
   simp only[Heap.minus,Heap.set];by_cases z:k=bi
   ·subst z;simp[h]
   ·by_cases x:k∈i.del<;>by_cases y:k∈j.del<;>simp[x,y,z]
  |some o=>
   rw[m]at g d;have d:=d (by simp);have g:=g (by simp) (by simp);simp only[Heap.minus,Heap.set];by_cases z:k=bi
   ·subst z;simp[h,g]
   ·by_cases p:k=e
    ·subst p;simp[d,z]
    ·by_cases x:k∈i.del<;>by_cases y:k∈j.del<;>simp[x,y,z,p]
theorem B0f{e:Ef}{b k:Nat}{U:Nat→Prop}(h:U k):e.used b U k:=by
 unfold Ef.used;cases e.new with
 |none=>exact h
 |some o=>exact .inl h
theorem B6L{e:Ef}{b:Nat}{U:Nat→Prop}(h:e.new≠none):e.used b U b:=by
 unfold Ef.used;cases hn:e.new with
 |none=>exact absurd hn h
 |some o=>exact .inr rfl
theorem used_inv{e:Ef}{b k:Nat}{U:Nat→Prop}(h:e.used b U k):U k∨(e.new≠none∧k=b):=by
 unfold Ef.used at h;cases hn:e.new with
 |none=>rw[hn]at h;exact .inl h
 |some o=>rw[hn]at h;exact h.imp id fun h=>⟨by simp,h⟩
theorem B4m{i j:Ef}{bi d:Nat}{U:Nat→Prop}:j.used d (i.used bi U)=i.used bi (j.used d U):=by
 unfold Ef.used;cases i.new<;>cases j.new<;>try rfl
 funext k
 apply propext;simp only[or_assoc,or_comm (a:=k=bi)]
def A07(P:Program)(oi oj:Op):Bool:=(!A1Q oi||I4 P oj== .pure)&&(!A1Q oj||I4 P oi== .pure)
theorem B0g{o:Op}{e:Ef}{ev:Operand→D}{H:Heap}(h:x9 P c bl ev H o=some e)(hs:A1Q o=false):e.at_=none:=by
 by_cases hc:I4 P o= .pure
 ·rw[U8 hc]at h;obtain⟨d,_,rfl⟩:=D1i.1 h;rfl
 ·rw[I7 hc]at h;cases o
  case load t x=>simp only[I5,D1i]at h;obtain⟨d,_,rfl⟩:=h;rfl
  case lookup t m k ok=>simp only[I5,D1i]at h;obtain⟨d,_,rfl⟩:=h;rfl
  case alloc t=>simp only[I5,D1i]at h;obtain⟨d,_,rfl⟩:=h;rfl
  case box t x=>simp only[I5]at h;split at h<;>cases h;rfl
  case makeSlice t l c=>
   simp only[I5]at h;obtain⟨_,_,_,_,_,_,_,_,_,_,_,_,_,_,_,_,_,_,rfl⟩:=A52 h;rfl
  case buildSlice t n parts=>
   simp only[I5,bsE]at h;obtain⟨T,g,h⟩:=D1l.1 h;split at h
   ·obtain⟨z,q,h⟩:=D1l.1 h;split at h
    ·obtain⟨es,i,rfl⟩:=D1i.1 h;rfl
    ·cases h
   ·cases h
  case store t a x=>simp[A1Q]at hs
  case call cc=>
   obtain⟨callee,args,j⟩:=cc;cases callee with
   |value f=>
    simp only[I5]at h;split at h<;>cases h;rfl
   |invoke r m=>simp[I5]at h
   |builtin b=>
    cases b
    case append=>
     unfold I5 at h;simp only at h;split at h
     ·unfold B2P at h;obtain⟨T,g,h⟩:=D1l.1 h;split at h
      ·obtain⟨xs,p,h⟩:=D1l.1 h;split at h
       ·split at h<;>cases h;rfl
       ·split at h
        ·split at h<;>cases h;rfl
        ·cases h
       ·cases h
      ·cases h
     ·cases h
    all_goals cases h
  case makeMap t r=>
   cases r with
   |none=>simp only[I5,D2B]at h;subst h;rfl
   |some r=>simp[I5]at h
  all_goals cases h
theorem A2e{o:Op}{e:Ef}{ev:Operand→D}{H:Heap}(h:x9 P c bl ev H o=some e)(hc:I4 P o= .pure):e.rd= []∧e.del= []∧e.new=none:=by
 rw[U8 hc]at h;obtain⟨d,_,rfl⟩:=D1i.1 h;exact⟨rfl,rfl,rfl⟩
theorem B2Q{ops:Array Oper}{X oj:Oper}{ci cj:CR}{K:Kf}{F:FEnv}{H:Heap}{U:Nat→Prop}(c6:X.apart ops oj=true)(G:A07 P X.op oj.op=true)(hB:A4i Bi Bj)(hD:Dom H U)
  (h:A0c P ci Bi X (A0c P cj Bj oj K) F H U):A0c P cj Bj oj (A0c P ci Bi X K) F H U:=by
 obtain⟨c7,a9⟩:=hB;obtain⟨a1,a2,a3⟩:=Oper.apart_spec c6;obtain⟨j,ri,m,Y,hi⟩:=h;simp only[A07,D1m,D2w,Bool.not_eq_true',beq_iff_eq]at G
 --a name for the first one's block that the second one does not name
 obtain⟨I,b1,b2⟩: ∃I,j.okB I U∧(j.new≠none→j.at_=none→I∉B3Y F.ev oj.op∧¬U I):=by
  obtain⟨x,b3,c8⟩:=hD.fin (B3Y F.ev oj.op);cases hn:j.new with
  |none=>exact⟨x,by unfold Ef.okB;rw[hn];trivial,fun h=>absurd rfl h⟩
  |some o=>
   cases q:j.at_ with
   |none=>exact⟨x,by unfold Ef.okB;rw[hn,q];exact .inl b3,fun _ _=>⟨c8,b3⟩⟩
   |some y=>exact⟨y,by unfold Ef.okB;rw[hn,q],fun _ h=>by cases h⟩
 have O: ∀y,j.at_=some y→I4 P oj.op= .pure:=fun y hy=>by
  rcases G.1 with h|h
  ·rw[B0g ri h]at hy;cases hy
  ·exact h
 obtain⟨p,rj,u,a0,_⟩:=hi I b1;have C:x9 P cj Bj.l F.ev (j.app I H) oj.op=some p:=by rw[←rj];exact(A0J (R0 a1)).symm
 have c9:P5 P cj Bj.l F.ev (j.app I H) oj.op:=by rw[←y3 (R0 (F:=F) (d:=j.val I) a1)];exact a0
 have b4: ∀y,p.at_=some y→I4 P X.op= .pure:=fun y hy=>by
  rcases G.2 with h|h
  ·rw[B0g C h]at hy;cases hy
  ·exact h
 --what the second one names,the first one lets be
 have b6: ∀b,b∈p.rd∨b∈p.del→j.new≠none→b≠I:=fun b hb hn he=>by
  subst he;cases q:j.at_ with
  |none=>exact(b2 hn q).1 (B4l C b hb)
  |some y=>
   obtain⟨e1,e2,_⟩:=A2e C (O y q);rw[e1,e2]at hb;simp at hb
 have J: ∀b∈p.del,b∉j.del:=fun b hb e=>by
  have h1:=(u.del b hb).2;have h2:j.app I H b=none:=by
   unfold Ef.app;cases hn:j.new with
   |none=>simp[Heap.minus,e]
   |some o=>simp[Heap.set,Heap.minus,e,b6 b (.inr hb) (by rw[hn];simp)]
  rw[h2]at h1;cases h1
 have a4: ∀b∈p.rd,b∉j.del:=fun b hb e=>by
  cases q:j.at_ with
  |none=>
   have V:=c7 b (u.rd b hb).1.1 (u.rd b hb).2;rcases(m.del b e).1 q with g|g
   ·exact g V.1
   ·exact V.2 g
  |some y=>rw[(A2e C (O y q)).1]at hb;cases hb
 have z: ∀b,b∈p.rd∨b∈p.del→j.app I H b=H b:=fun b hb=>A2d (hb.elim (a4 b) (J b)) (b6 b hb);have b7:x9 P cj Bj.l F.ev H oj.op=some p:=A3G C fun b hb=>(z b hb).symm;have r:A6h Bj H p:=⟨fun b hb=>⟨⟨(u.rd b hb).1.1,by rw[←z b (.inl hb)];exact(u.rd b hb).1.2⟩,(u.rd b hb).2⟩,fun b hb=>⟨(u.del b hb).1,by rw[←z b (.inr hb)];exact(u.del b hb).2⟩,u.new,u.at_⟩
 have d0:P5 P cj Bj.l F.ev H oj.op:=A3o c9 C (fun k cs hk=>B3Z m hD.dom b1 hk) (fun k cs hk=>B6J m hk) (fun b hb=>(z b hb).symm);refine⟨p,b7,r,d0,fun L i=>?_⟩
 --the first one behind the second one
 have b8: ∀b,B2O (H b)=true→U b:=fun b hb=>hD.dom b fun h=>by rw[h]at hb;cases hb
 have a5: ∀b,b∈j.rd∨b∈j.del→p.new≠none→b≠L:=fun b hb hn he=>by
  subst he;unfold Ef.okB at i;cases W:p.new with
  |none=>exact hn W
  |some o=>
   rw[W]at i;cases q:p.at_ with
   |none=>
    rw[q]at i;rcases i with i|i
    ·rcases hb with hb|hb
     ·exact i (hD.dom b (m.rd b hb).1.2)
     ·exact i (b8 b (m.del b hb).2)
    ·rcases hb with hb|hb
     ·have V:=a9 b (m.rd b hb).1.1 (m.rd b hb).2;rcases(r.del b i).1 q with g|g
      ·exact g V.1
      ·exact V.2 g
     ·exact J b i hb
   |some y=>
    obtain⟨e1,e2,_⟩:=A2e ri (b4 y q);rw[e1,e2]at hb;simp at hb
 have b9: ∀b,b∈j.rd∨b∈j.del→b∉p.del:=fun b hb i=>by
  rcases hb with hb|hb
  ·cases q:p.at_ with
   |none=>
    have V:=a9 b (m.rd b hb).1.1 (m.rd b hb).2;rcases(r.del b i).1 q with g|g
    ·exact g V.1
    ·exact V.2 g
   |some y=>rw[(A2e ri (b4 y q)).1]at hb;cases hb
  ·exact J b i hb
 have A: ∀b,b∈j.rd∨b∈j.del→p.app L H b=H b:=fun b hb=>A2d (b9 b hb) (a5 b hb);have d2:x9 P ci Bi.l (F.put oj.dst (p.val L)).ev (p.app L H) X.op=some j:=by
  rw[A0J (R0 a3)];exact A3G ri A
 have c0:A6h Bi (p.app L H) j:=⟨fun b hb=>⟨⟨(m.rd b hb).1.1,by rw[A b (.inl hb)];exact(m.rd b hb).1.2⟩,(m.rd b hb).2⟩,fun b hb=>⟨(m.del b hb).1,by rw[A b (.inr hb)];exact(m.del b hb).2⟩,m.new,m.at_⟩
 have d3:P5 P ci Bi.l (F.put oj.dst (p.val L)).ev (p.app L H) X.op:=by
  rw[y3 (R0 a3)];exact A3o Y ri (fun k cs hk=>B6J r hk) (fun k cs hk=>B3Z r hD.dom i hk) A
 refine⟨j,d2,c0,d3,fun bi e=>?_⟩
 --the names are apart
 have c1:j.okB bi U:=by
  unfold Ef.okB at e⊢;cases hn:j.new with
  |none=>trivial
  |some o=>
   rw[hn]at e;cases q:j.at_ with
   |none=>
    rw[q]at e;exact e.imp (fun h hU=>h (B0f hU)) id
   |some y=>rw[q]at e;exact e
 have c2:j.new≠none→p.new≠none→bi≠L:=fun hn hm he=>by
  subst he;unfold Ef.okB at e;cases M:j.new with
  |none=>exact hn M
  |some o=>
   rw[M]at e;cases q:j.at_ with
   |none=>
    rw[q]at e;rcases e with e|e
    ·exact e (B6L hm)
    ·exact a5 bi (.inr e) hm rfl
   |some y=>exact hm (A2e C (O y q)).2.2
 have c3: ∀b,b∈p.rd∨b∈p.del→j.new≠none→b≠bi:=fun b hb hn he=>by
  subst he;unfold Ef.okB at e;cases M:j.new with
  |none=>exact hn M
  |some o=>
   rw[M]at e;cases q:j.at_ with
   |none=>
    rw[q]at e;rcases e with e|e
    ·apply e;have:U b:=by
      rcases hb with hb|hb
      ·exact hD.dom b (r.rd b hb).1.2
      ·exact b8 b (r.del b hb).2
     exact B0f this
    ·exact b9 b (.inr e) (by rcases hb with hb|hb;exact absurd e (a4 b hb);exact hb)
   |some y=>
    obtain⟨e1,e2,_⟩:=A2e C (O y q);rw[e1,e2]at hb;simp at hb
 obtain⟨T,c4,d7,d8,hj⟩:=hi bi c1;have a6: ∀b,b∈p.rd∨b∈p.del→j.app bi H b=H b:=fun b hb=>A2d (hb.elim (a4 b) (J b)) (c3 b hb);have d4:T=p:=by
  rw[A0J (R0 a1)]at c4;have:=A3G b7 a6;rw[c4]at this;exact Option.some.inj this
 subst d4;have c5:T.okB L (j.used bi U):=by
  unfold Ef.okB at i⊢;cases hn:T.new with
  |none=>trivial
  |some o=>
   rw[hn]at i;cases q:T.at_ with
   |none=>
    rw[q]at i;refine i.imp (fun h hU=>?_) id;rcases used_inv hU with hU|⟨d5,hU⟩
    ·exact h hU
    ·exact c2 d5 (by rw[hn];simp) hU.symm
   |some y=>rw[q]at i;exact i
 have:=hj L c5;rw[A19 a2,B6K (fun b hb d6=>J b d6 hb) c2 (fun hn hb=>c3 bi (.inr hb) hn rfl) (fun hn hb=>a5 L (.inr hb) hn rfl),B4m]at this;exact this
abbrev P6(ops:Array Oper):List (Option Nat):=ops.toList.map (·.dst)
theorem B3a(ops:Array Oper)(j:Nat):I1 (P6 ops) j=(ops[j]?).bind (·.dst):=by
 unfold I1;rw[D1w];cases d:ops[j]? with
 |none=>simp[d]
 |some o=>simp[d]
theorem B0h{ops:Array Oper}{F:FEnv}{o:Oper}{dst:Option Tmp}{d:D}(h: ∀t,dst=some t→t∉o.looksAt ops):A23 (P6 ops) (F.put dst d) o.guard=A23 (P6 ops) F o.guard:=by
 cases m:o.guard with
 |none=>rfl
 |some p=>
  obtain⟨j,i⟩:=p;unfold A23;simp only[];rw[B3a];cases hs:(ops[j]?).bind (·.dst)with
  |none=>rfl
  |some s=>
   simp only[];cases dst with
   |none=>rfl
   |some t=>
    have g:t≠s:=fun e=>h t rfl (by subst e;simp[Oper.looksAt,m,hs]);simp only[FEnv.put,if_neg g]
theorem B4n{ops:Array Oper}{i oj:Oper}{u A:CR}{K:Kf}{F:FEnv}{H:Heap}{U:Nat→Prop}(m:i.apart ops oj=true)(j:A07 P i.op oj.op=true)(L:A4i Bi Bj)(J:Dom H U)
  (h:A0d P (P6 ops) u Bi i (A0d P (P6 ops) A Bj oj K) F H U):A0d P (P6 ops) A Bj oj (A0d P (P6 ops) u Bi i K) F H U:=by
 obtain⟨a1,a2,a3⟩:=Oper.apart_spec m;have p: ∀v,A23 (P6 ops) (F.put i.dst v) oj.guard=A23 (P6 ops) F oj.guard:=fun v=>B0h a1;have z: ∀v,A23 (P6 ops) (F.put oj.dst v) i.guard=A23 (P6 ops) F i.guard:=fun v=>B0h a3;rcases h with⟨hr,h⟩|⟨hr,h⟩
 ·
  cases q:A23 (P6 ops) F oj.guard with
  |none=>
   exfalso;obtain⟨e,_,_,_,h5⟩:=h;obtain⟨x,hx,_⟩:=J.fin [];obtain⟨b,hb⟩: ∃b,e.okB b U:=by
    unfold Ef.okB;cases e.new with
    |none=>exact⟨x,trivial⟩
    |some o=>
     cases e.at_ with
     |none=>exact⟨x,.inl hx⟩
     |some y=>exact⟨y,rfl⟩
   rcases h5 b hb with⟨g,_⟩|⟨g,_⟩<;>rw[p,q]at g<;>cases g
  |some r=>
   cases r with
   |true=>
    have C:A0c P u Bi i (A0c P A Bj oj K) F H U:=A1X (fun v H U hk=>by
     rcases hk with⟨_,hk⟩|⟨g,_⟩
     ·exact hk
     ·rw[p,q]at g;cases g) h
    exact .inl ⟨q,A1X (fun v H U hk=>.inl ⟨by rw[z];exact hr,hk⟩) (B2Q m j L J C)⟩
   |false=>
    have C:A0c P u Bi i (fun F H U=>K (F.put oj.dst (.tuple [])) H U) F H U:=A1X (fun v H U hk=>by
     rcases hk with⟨g,_⟩|⟨_,hk⟩
     ·rw[p,q]at g;cases g
     ·exact hk) h
    refine .inr ⟨q,.inl ⟨by rw[z];exact hr,?_⟩⟩;obtain⟨e,G,I,h5,g⟩:=C;exact⟨e,by rw[A0J (R0 a3)];exact G,I,by rw[y3 (R0 a3)];exact h5,fun b hb=>by rw[←A19 a2];exact g b hb⟩
 ·
  rcases h with⟨g,h⟩|⟨g,h⟩
  ·rw[p]at g;refine .inl ⟨g,?_⟩;obtain⟨e,G,I,h5,M⟩:=h;refine⟨e,by rw[←G];exact(A0J (R0 a1)).symm,I,by rw[←y3 (R0 (F:=F) (d:=.tuple []) a1)];exact h5,fun b hb=>.inr ⟨by rw[z];exact hr,?_⟩⟩;rw[←A19 a2];exact M b hb
  ·rw[p]at g;exact .inr ⟨g,.inr ⟨by rw[z];exact hr,by rw[←A19 a2];exact h⟩⟩
variable {ops:Array Oper} {md:Region.Mode} {cs:Nat→CR} {bs:Nat→Bl}
def sE(P:Program)(cs:Nat→CR)(bs:Nat→Bl)(ops:Array Oper)(i:Nat)(K:Kf):Kf:=match ops[i]? with
 |none=>K
 |some o=>A0d P (P6 ops) (cs i) (bs i) o K
def B4o(P:Program)(cs:Nat→CR)(bs:Nat→Bl)(md:Region.Mode)(ops:Array Oper)(K:Kf):Nat→Array Bool→Kf
 |0,listed=>fun F H U=>Region.ready md ops listed= []∧K F H U
 |fuel+1,listed=>fun F H U=>(Region.ready md ops listed= []→K F H U)∧∀i∈Region.ready md ops listed,sE P cs bs ops i (B4o P cs bs md ops K fuel (listed.setIfInBounds i true)) F H U
theorem B2R{e:Ef}{H:Heap}{U:Nat→Prop}(d:Dom H U): ∃b,e.okB b U:=by
 obtain⟨x,hx,_⟩:=d.fin [];unfold Ef.okB;cases e.new with
 |none=>exact⟨x,trivial⟩
 |some o=>
  cases e.at_ with
  |none=>exact⟨x,.inl hx⟩
  |some y=>exact⟨y,rfl⟩
theorem B4p{o:Oper}{K:Kf}{F:FEnv}{H:Heap}{U:Nat→Prop}(d:Dom H U)(h:A0c P c bb o K F H U):A0c P c bb o (fun F H U=>Dom H U∧K F H U) F H U:=
 let ⟨e,h2,h3,h4,h5⟩:=h;⟨e,h2,h3,h4,fun b hb=>⟨d.app hb,h5 b hb⟩⟩
theorem B0i{d:List (Option Nat)}{o:Oper}{F:FEnv}{H:Heap}{U:Nat→Prop}(g:Dom H U)(h:A0d P d c bb o (fun _ _ _=>False) F H U):False:=by
 rcases h with⟨_,e,_,_,_,h5⟩|⟨_,h⟩
 ·obtain⟨b,hb⟩:=B2R (e:=e) g;exact h5 b hb
 ·exact h
theorem A7x{d:List (Option Nat)}{o:Oper}{K:Kf}{F:FEnv}{H:Heap}{U:Nat→Prop}(e:Dom H U)(h:A0d P d c bb o K F H U):A0d P d c bb o (fun F H U=>Dom H U∧K F H U) F H U:=
 h.imp (fun h=>⟨h.1,B4p e h.2⟩) fun h=>⟨h.1,e,h.2⟩
theorem B2S{K:Kf}{i:Nat}{q:Oper}{W:Nat→Prop}(O:ops[i]? =some q)(V:Closed md ops i W):
  ∀(fuel:Nat) (d:Array Bool) (F:FEnv) (H:Heap) (U:Nat→Prop),Dom H U→(∀j,W j→d.getD j false=false)→
   (∀j oj,ops[j]? =some oj→¬W j→d.getD j true=false→(q.apart ops oj=true∧A07 P q.op oj.op=true)∧A4i (bs i) (bs j))→
   i∈Region.ready md ops d→A0d P (P6 ops) (cs i) (bs i) q (B4o P cs bs md ops K fuel (d.setIfInBounds i true)) F H U→B4o P cs bs md ops K (fuel+1) d F H U:=by
 intro fuel
 induction fuel with
 |zero=>
  intro d F H U G _ _ hr h;refine⟨fun I=>(by rw[I]at hr;cases hr),fun j x=>?_⟩;by_cases g:j=i
  ·subst g;unfold sE;simp only[O];exact h
  ·exfalso;refine B0i G (A1Y (fun F H U hk=>?_) h);have:=ready_mono x g;rw[hk.1]at this;cases this
 |succ fuel X=>
  intro d F H U G y m hr h;refine⟨fun I=>(by rw[I]at hr;cases hr),fun j x=>?_⟩;by_cases g:j=i
  ·subst g;unfold sE;simp only[O];exact h
  ·obtain⟨p,oj,r,_⟩:=mem_ready.1 x;have z:=V.not_ready y x g;obtain⟨⟨J,u⟩,L⟩:=m j oj r z p;have A: ∀k,W k→(d.setIfInBounds j true).getD k false=false:=fun k hk=>by
    rw[W8 (fun e:j=k=>z (by rw[e];exact hk))];exact y k hk
   have o: ∀k ok,ops[k]? =some ok→¬W k→(d.setIfInBounds j true).getD k true=false→(q.apart ops ok=true∧A07 P q.op ok.op=true)∧A4i (bs i) (bs k):=fun k ok hk M T=>by
    refine m k ok hk M ?_;by_cases C:j=k
    ·subst C;exact p
    ·rw[getD_set_ne true C]at T;exact T
   have h1:A0d P (P6 ops) (cs i) (bs i) q (A0d P (P6 ops) (cs j) (bs j) oj (B4o P cs bs md ops K fuel ((d.setIfInBounds i true).setIfInBounds j true))) F H U:=A1Y (fun F H U hk=>by
    have:=hk.2 j (ready_mono x g);unfold sE at this;simp only[r]at this;exact this) h
   have Y:=A7x G (B4n J u L G h1);unfold sE;simp only[r];refine A1Y (fun F H U hk=>X (d.setIfInBounds j true) F H U hk.1 A o (ready_mono hr (Ne.symm g)) ?_) Y;rw[Array.setIfInBounds_comm _ _ g];exact hk.2
def A7y(P:Program)(gs:List (Option Nat))(cs:Nat→CR)(bs:Nat→Bl)(K:Kf):Nat→List Oper→Kf
 |_,[]=>K
 |k,o::l=>A0d P gs (cs k) (bs k) o (A7y P gs cs bs K (k+1) l)
def A53(P:Program)(ops:Array Oper)(oi oj:Oper):Bool:=oi.apart ops oj&&A07 P oi.op oj.op
def A2f(P:Program)(ops:Array Oper)(oi:Oper):List Oper→List Bool→Bool
 | [],_=>true
 |o::l,b::W=>(b||A53 P ops oi o)&&A2f P ops oi l W
 |_::_,[]=>false
def A54(P:Program)(ops:Array Oper):Nat→List Oper→Bool
 |_,[]=>true
 |k,o::l=>(o.after.all fun e=> !Region.binds .any e||e.on<k)&&A2f P ops o l (Z0 k l [])&&A54 P ops (k+1) l
def B3b(P:Program)(ops:Array Oper):Bool:=A54 P ops 0 ops.toList
def B4q:(Nat→Bl)→Nat→List Oper→Prop
 |_,_,[]=>True
 |bs,k,o::l=>(∀i,i<l.length→(Z0 k l [])[i]? ≠some true→A4i (bs k) (bs (k+1+i)))∧B4q bs (k+1) l
theorem A3H(bl:List Nat): ∀(l:List Oper) (k:Nat),B4q (fun _=>⟨bl,[],[]⟩) k l
 | [],_=>trivial
 |_::l,k=>⟨fun i _ _=>⟨fun b h _=>⟨h,(by simp)⟩,fun b h _=>⟨h,(by simp)⟩⟩,A3H bl l (k+1)⟩
theorem okRestE_at{e:Oper}: ∀(l:List Oper) (W:List Bool),A2f P ops e l W=true→∀(i:Nat) (o:Oper),l[i]? =some o→W[i]? =some true∨A53 P ops e o=true
 | [],_,_,i,o,h=>by simp at h
 |o'::l,[],h,_,_,_=>by simp[A2f]at h
 |o'::l,b::W,h,0,o,d=>by
  simp[A2f]at h d;subst d;rcases h.1 with h|h
  ·exact .inl (by simp[h])
  ·exact .inr h
 |o'::l,b::W,h,i+1,o,d=>by
  simp[A2f]at h d;simpa using okRestE_at l W h.2 i o d
theorem B0j{K:Kf}: ∀(l:List Oper) (k:Nat) (d:Array Bool),(∀j,l[j]? =ops[k+j]?)→(∀j,d.getD j false=decide (j<k))→(d.size=ops.size)→
  A54 P ops k l=true→B4q bs k l→∀F H U,Dom H U→A7y P (P6 ops) cs bs K k l F H U→B4o P cs bs .any ops K l.length d F H U:=by
 intro l
 induction l with
 |nil=>
  intro k d hl u hsz _ _ F H U _ h;refine⟨?_,h⟩;cases hr:Region.ready .any ops d with
  |nil=>rfl
  |cons x xs=>
   exfalso;have hx:x∈Region.ready .any ops d:=by rw[hr];simp
   obtain⟨O,o,ho,_⟩:=mem_ready.1 hx;have:=u x;rw[J2 O]at this;have hk:k≤x:=by simpa using this
   have:=hl (x-k);rw[show k+(x-k)=x from by omega,ho]at this;simp at this
 |cons o l ih=>
  intro k d hl u hsz T V F H U hD h;obtain⟨a5,a6⟩:=V;have O:ops[k]? =some o:=by simpa using(hl 0).symm
  have b3:k<ops.size:=(D1y.1 O).1;simp only[A54,D1m]at T;obtain⟨⟨he,hr⟩,y⟩:=T;have z: ∀j,l[j]? =ops[k+1+j]? :=fun j=>by have:=hl (j+1);simpa [Nat.add_assoc,Nat.add_comm 1 j]using this
  have p:k∈Region.ready .any ops d:=by
   rw[mem_ready];refine⟨?_,o,O,fun e A hb=>?_⟩
   ·have:=u k;simp at this;have C:k<d.size:=by omega
    simp[C]at this⊢;exact this
   ·rw[u];rw[Array.all_eq_true_iff_forall_mem]at he;have:=he e A;simp[hb]at this;simpa using this
  have a9: ∀j,(d.setIfInBounds k true).getD j false=decide (j<k+1):=fun j=>by
   by_cases G:k=j
   ·subst G;have C:k<d.size:=by omega
    simp[C]
   ·rw[getD_set_ne false G,u];apply D2C.2;omega
  have X:(d.setIfInBounds k true).size=ops.size:=by simpa using hsz
  let W:Nat→Prop:=fun j=>j=k∨(k<j∧(Z0 k l [])[j-(k+1)]? =some true)
  have b0:Closed .any ops k W:=by
   refine⟨.inl rfl,fun j oj I Y m=>?_⟩;rcases I with I|⟨b1,I⟩
   ·exact absurd I Y
   ·have q:l[j-(k+1)]? =some oj:=by rw[z];rw[show k+1+(j-(k+1))=j from by omega];exact m
    have J:=A3m k l [] (j-(k+1)) oj q;simp only[D1g,Nat.zero_add]at J;rw[I]at J;have hw:v8 oj k ((Z0 k l []).take (j-(k+1)))=true:=by simpa using J.symm
    unfold v8 at hw;obtain⟨e,A,g⟩:=Array.any_eq_true'.1 hw;simp only[D1m,D2w,beq_iff_eq,D1v]at g;refine⟨e,A,g.1,?_⟩;rcases g.2 with h1|⟨h1,i⟩
    ·exact .inl h1
    ·refine .inr ⟨h1,?_⟩;rw[List.getD_eq_getElem?_getD]at i;cases M:((Z0 k l []).take (j-(k+1)))[e.on-(k+1)]? with
     |none=>rw[M]at i;simp at i
     |some b=>
      rw[M]at i;simp at i;subst i;rw[List.getElem?_take]at M;split at M
      ·exact M
      ·cases M
  have b2: ∀j,W j→d.getD j false=false:=fun j I=>by
   rw[u];rcases I with rfl|⟨b1,_⟩<;>simp;omega
  have L: ∀j oj,ops[j]? =some oj→¬W j→d.getD j true=false→A53 P ops o oj=true∧A4i (bs k) (bs j):=fun j oj m r hu=>by
   have h1:=u j;rw[J2 hu]at h1;have G:k≤j:=by simpa using h1
   have Y:j≠k:=fun e=>r (.inl e);have q:l[j-(k+1)]? =some oj:=by rw[z];rw[show k+1+(j-(k+1))=j from by omega];exact m
   have a0:(Z0 k l [])[j-(k+1)]? ≠some true:=fun i=>r (.inr ⟨by omega,i⟩);have a4:=a5 (j-(k+1)) (D1j.1 q).1 a0;rw[show k+1+(j-(k+1))=j from by omega]at a4;rcases okRestE_at l _ hr _ _ q with i|i
   ·exact absurd i a0
   ·exact⟨i,a4⟩
  refine B2S O b0 l.length d F H U hD b2 (fun j oj m r hu=>?_) p (A1Y (fun F' H' U' h'=>ih (k+1) _ z a9 X y a6 F' H' U' h'.1 h'.2) (A7x hD h));obtain⟨h1,i⟩:=L j oj m r hu;exact⟨by simpa [A53]using h1,i⟩
def Ef.okH(e:Ef)(b:Nat)(H:Heap):Prop:=match e.new,e.at_ with
 |none,_=>True
 |some _,some c=>b=c
 |some _,none=>H b=none∨b∈e.del
theorem C3I{e:Ef}{b:Nat}{H:Heap}{U:Nat→Prop}(g:Dom H U)(h:e.okB b U):e.okH b H:=by
 unfold Ef.okB at h;unfold Ef.okH;cases hn:e.new with
 |none=>trivial
 |some o=>
  rw[hn]at h;cases d:e.at_ with
  |none=>
   rw[d]at h;refine h.imp (fun h=>?_) id;cases hb:H b with
   |none=>rfl
   |some x=>exact absurd (g.dom b (by rw[hb];simp)) h
  |some y=>rw[d]at h;exact h
theorem F6(H:Heap):H.minus []=H:=by funext k;simp[Heap.minus]
theorem B4r{b k:Nat}:(H.del b) k=none↔k=b∨H k=none:=by unfold Heap.del;by_cases h:k=b<;>simp[h]
theorem A08{t:TypeId}{a x:D}{H':Heap}{b:Nat}(h:Z5 P t a x H=some H')(g:rdB a= [b]): ∃o,H' b=some o∧o.rw=true∧H'=H.set b o∧B2O (H b)=true:=by
 unfold Z5 at h;split at h
 ·split at h
  ·rename_i e off;obtain rfl:e=b:=by simpa [rdB]using g
   split at h
   ·rename_i cs Z d;split at h
    ·cases h;exact⟨_,by simp[Heap.set],rfl,rfl,by rw[d];rfl⟩
    ·cases h
   ·cases h
  ·rename_i e sz i off;obtain rfl:e=b:=by simpa [rdB]using g
   split at h
   ·rename_i sz' es d;split at h
    ·cases h;exact⟨_,by simp[Heap.set],rfl,rfl,by rw[d];rfl⟩
    ·cases h
   ·cases h
  ·cases h
 ·cases h
theorem j7(H:Heap)(b:Nat)(o:Obj):(H.minus [b]).set b o=H.set b o:=by
 funext k;unfold Heap.set Heap.minus
 by_cases h:k=b<;>simp[h]
theorem B9n{op:Op}{e:Ef}(h:x9 P c bl ev H op=some e)(a5:A6h bb H e)(j:P5 P c bl ev H op):
  D1 P ev H (fun d H'=>∃b,e.okH b H∧d=e.val b∧(e.app b H).Le H') op:=by
 have one: ∀{K:D→Heap→Prop} {d:D} {rd:List Nat},e=val d rd→(∃b,e.okH b H∧d=e.val b∧(e.app b H).Le H):=by
  intro K d rd he;subst he;exact⟨0,trivial,rfl,by show (H.minus []).Le H;rw[F6];exact D20 H⟩
 by_cases hc:I4 P op= .pure
 ·rw[U8 hc]at h;obtain⟨d,y,rfl⟩:=D1i.1 h;have fin: ∃d',L2 P ev op=some d'∧∃b,(val d []).okH b H∧d'=(val d []).val b∧((val d []).app b H).Le H:=⟨d,y,0,trivial,rfl,by show (H.minus []).Le H;rw[F6];exact D20 H⟩
  cases op
  case call cc=>
   obtain⟨callee,args,M⟩:=cc;cases callee with
   |value f=>simp[I4]at hc
   |invoke r m=>simp[I4]at hc
   |builtin b=>
    cases b<;>try(simp[I4]at hc;done)
    all_goals (simp only[D1,hc];exact fin)
  case convert s t x=>simp only[D1,hc];exact fin
  case load t x=>simp[I4]at hc
  case store t a x=>simp[I4]at hc
  case alloc t=>simp[I4]at hc
  case box t x=>simp[I4]at hc
  case buildSlice t n p=>simp[I4]at hc
  case makeSlice t a b=>simp[I4]at hc
  case range t x=>simp[I4]at hc
  case next x i=>simp[I4]at hc
  case makeMap t r=>simp[I4]at hc
  case lookup t m k ok=>simp[I4]at hc
  case mapUpdate t m k v=>simp[I4]at hc
  all_goals first
   |(simp only[D1,hc];exact fin)
   |(simp[I4]at hc;done)
 ·rw[I7 hc]at h;cases op
  case load t x=>
   simp only[I5,D1i]at h;obtain⟨d,y,rfl⟩:=h;exact⟨d,y,0,trivial,rfl,by show (H.minus []).Le H;rw[F6];exact D20 H⟩
  case lookup t m k ok=>
   simp only[I5,D1i]at h;obtain⟨d,y,rfl⟩:=h;exact⟨d,y,0,trivial,rfl,by show (H.minus []).Le H;rw[F6];exact D20 H⟩
  case alloc t=>
   simp only[I5,D1i]at h;obtain⟨z,O,rfl⟩:=h;exact⟨z,O,fun b hb=>⟨b,.inl hb,rfl,by show ((H.minus []).set b _).Le _;rw[F6];exact D20 _⟩⟩
  case box t x=>
   simp only[I5]at h;split at h
   ·rename_i h1;cases h;exact⟨h1,fun b hb=>⟨b,.inl hb,rfl,by show ((H.minus []).set b _).Le _;rw[F6];exact D20 _⟩⟩
   ·cases h
  case makeSlice t l c=>
   simp only[I5]at h;obtain⟨e',sz,A,z,k,n,k',m,h1,G,T,h4,h5,h6,h7,h8,h9,U,rfl⟩:=A52 h;exact⟨e',sz,A,z,k,n,k',m,h1,G,T,h4,h5,h6,h7,h8,h9,U,fun b hb=>⟨b,.inl hb,rfl,by show ((H.minus []).set b _).Le _;rw[F6];exact D20 _⟩⟩
  case buildSlice t n parts=>
   simp only[I5,bsE]at h;obtain⟨⟨e',sz,A⟩,V,h⟩:=D1l.1 h;split at h
   ·rename_i h1;obtain⟨z,O,h⟩:=D1l.1 h;split at h
    ·rename_i G;obtain⟨es,W,rfl⟩:=D1i.1 h;exact⟨e',sz,A,z,es,V,h1.1,h1.2,O,G,W,fun b hb=>⟨b,.inl hb,rfl,by show ((H.minus []).set b _).Le _;rw[F6];exact D20 _⟩⟩
    ·cases h
   ·cases h
  case store t a x=>
   simp only[I5,w9]at h;obtain⟨H1,hs,h⟩:=D1l.1 h;refine⟨H1,hs,?_⟩;cases X:ev a with
   |box b off=>
    rw[X]at h hs;simp only at h;obtain⟨o,ho,rfl⟩:=D1i.1 h;obtain⟨o',C,_,I,_⟩:=A08 hs (b:=b) rfl;rw[ho]at C;cases C;exact⟨b,rfl,rfl,by show ((H.minus [b]).set b _).Le _;rw[j7,I];exact D20 _⟩
   |el b sz i off=>
    rw[X]at h hs;simp only at h;obtain⟨o,ho,rfl⟩:=D1i.1 h;obtain⟨o',C,_,I,_⟩:=A08 hs (b:=b) rfl;rw[ho]at C;cases C;exact⟨b,rfl,rfl,by show ((H.minus [b]).set b _).Le _;rw[j7,I];exact D20 _⟩
   |_=>rw[X]at h;simp at h
  case call cc=>
   obtain⟨callee,args,M⟩:=cc;cases callee with
   |value f=>
    simp only[I5]at h;simp only[P5]at j;simp only[D1];split at h
    ·rename_i g first cap hf
     cases h;rw[hf]at j⊢;simp only at j⊢;refine(j H (fun k cs hk=>hk) (fun b hb=>rfl)).mono fun d H' y=>?_;unfold CR.post at y;unfold Ef.okH Ef.app;cases hn:c.new with
     |none=>rw[hn]at y;exact⟨0,by simp only[hn],by simp only[CR.f,hn];exact y.1,by simp only[hn];exact y.2⟩
     |some o=>
      rw[hn]at y;obtain⟨b,h1,G,T⟩:=y;exact⟨b,by simp only[hn];exact h1,by simp only[CR.f,hn];exact G,by simp only[hn];exact T⟩
    ·cases h
   |invoke r m=>simp[I5]at h
   |builtin b=>
    cases b
    case append=>
     unfold I5 at h;simp only at h;simp only[D1];split at h
     ·rename_i t t' s x h1 G;simp only[h1,G];unfold B2P at h;obtain⟨⟨e',sz,A⟩,V,h⟩:=D1l.1 h;split at h
      ·rename_i q;simp only at q h;obtain⟨xs,Y,h⟩:=D1l.1 h;refine⟨e',sz,A,V,q.1,q.2.1,q.2.2,xs,Y,?_⟩;split at h
       ·rename_i J;split at h
        ·rename_i hx;cases h;rw[J];refine⟨hx.1,hx.2.1,fun he=>by rw[he]at hx;simp at hx,fun _ b hb=>⟨b,.inl hb,rfl,?_⟩⟩;intro k o hk;simp only[Ef.app,Heap.set]at hk⊢;split at hk
         ·rename_i u;rw[if_pos u];exact hk
         ·rename_i u;rw[if_neg u];exact A6c _ _ k o hk
        ·cases h
       ·rename_i b sz' lo n J;split at h
        ·rename_i a4 es hb;split at h
         ·rename_i hx;obtain⟨x1,x2,x3,x4,x5,x6⟩:=hx;subst x1;subst x2;subst x3;cases h;rw[J];refine⟨rfl,.inl ⟨rfl,es,hb,x4,x5,x6,fun b' a0=>⟨b',?_,rfl,?_⟩⟩⟩
          ·show H b'=none∨b'∈b::_;rcases B4r.1 a0 with h|h
           ·exact .inr (by rw[h];exact D1k ..)
           ·exact .inl h
          ·intro k o hk;simp only[Ef.app,Heap.set]at hk⊢;split at hk
           ·rename_i u;rw[if_pos u];exact hk
           ·rename_i u;rw[if_neg u];unfold Heap.minus at hk;split at hk
            ·cases hk
            ·rename_i L;simp only[D11,not_or]at L;unfold Heap.del;rw[if_neg L.1];exact hk
         ·cases h
        ·cases h
       ·cases h
      ·cases h
     ·cases h
    all_goals cases h
  case makeMap t r=>
   cases r with
   |none=>
    simp only[I5,D2B]at h;subst h;exact fun b hb=>⟨b,.inl hb,rfl,by show ((H.minus []).set b _).Le _;rw[F6];exact D20 _⟩
   |some r=>simp[I5]at h
  all_goals cases h
structure StF(N:Nat)(w0:World)(H0:Heap)(F:FEnv)(H:Heap)(U:Nat→Prop)(a:Act)(w:World):Prop where
 size:a.tmps.size=N
 defers:a.defers= []
 env: ∀i,R w H (F i) (a.eval (.tmp i))
 sat:Sat H w
 ext:Ext H0 w0 w
 frm:From w0 H0 H
 dom:Dom H U
 lt: ∀b,U b→b<w.heap.size
theorem StF.evR{N:Nat}{w0:World}{H0:Heap}{F:FEnv}{U:Nat→Prop}{a:Act}{w:World}(h:StF N w0 H0 F H U a w)(x:Operand):R w H (F.ev x) (a.eval x):=by
 cases x with
 |tmp t=>exact h.env t
 |const v=>exact A2b w H v
 |global g=>exact .glob g
 |func f=>exact .fn _ _ _ _ _ rfl rfl (by simp) (by simp)
theorem B2T{e:Ef}{b:Nat}{o:Obj}{H:Heap}(h:e.new=some o):e.app b H b=some o:=by unfold Ef.app;rw[h];simp[Heap.set]
theorem B0k{N:Nat}{w0:World}{H0:Heap}{o:Oper}{K:Kf}{F:FEnv}{U:Nat→Prop}{a:Act}{w:World}(W: ∀t,o.dst=some t→t<N)(h:A0c P c bb o K F H U)(hst:StF N w0 H0 F H U a w):
  opSem P none o a w fun v w'=>∃L H' M,StF N w0 H0 L H' M (a.put o.dst v) w'∧K L H' M:=by
 obtain⟨e,he,r,j,hk⟩:=h;refine(O2 (o:=o) hst.sat hst.evR (B9n he r j)).mono fun v w' hp=>?_;obtain⟨d,H',X,O,G,T,b,hb,rfl,g⟩:=hp;have u: ∀ob,e.new=some ob→H b=none→w.heap.size≤b:=fun ob x m=>by
  rcases Nat.lt_or_ge b w.heap.size with I|J
  ·have h1:=T b I (I0 m);have Y:=g b ob (B2T x);rw[J6 Y,r.new ob x]at h1;cases h1
  ·exact J
 have z:e.okB b U:=by
  unfold Ef.okH at hb;unfold Ef.okB;cases hn:e.new with
  |none=>trivial
  |some ob=>
   rw[hn]at hb;cases V:e.at_ with
   |none=>
    rw[V]at hb;exact hb.imp (fun m hU=>by have:=hst.lt b hU;have:=u ob hn m;omega) id
   |some y=>rw[V]at hb;exact hb
 refine⟨F.put o.dst (e.val b),e.app b H,e.used b U,?_,hk b z⟩;have p:From w H (e.app b H):=T.less g;refine⟨?_,?_,fun i=>?_,O.less g,hst.ext.trans hst.frm G,hst.frm.trans hst.ext.size p,hst.dom.app z,fun k hk=>?_⟩
 ·cases o.dst<;>simp[Act.put,hst.size]
 ·cases o.dst<;>exact hst.defers
 ·cases A:o.dst with
  |none=>exact(hst.env i).mono G p
  |some t=>
   have ht:=W t A;simp only[FEnv.put];by_cases q:t=i
   ·subst q;rw[if_pos rfl];have:(a.put (some t) v).eval (.tmp t)=v:=by
     have h':t<a.tmps.size:=by rw[hst.size];exact ht
     simp[Act.eval,Act.put,h']
    rw[this];exact X.less g
   ·rw[if_neg q];have:(a.put (some t) v).eval (.tmp i)=a.eval (.tmp i):=by
     simp[Act.eval,Act.put,D2D q]
    rw[this];exact(hst.env i).mono G p
 ·rcases used_inv hk with hk|⟨hn,rfl⟩
  ·exact D2V (hst.lt k hk) G.size
  ·cases C:e.new with
   |none=>exact absurd C hn
   |some ob=>exact O.lt (g k ob (B2T C))
theorem A5N{N:Nat}{w0:World}{H0:Heap}{F:FEnv}{H:Heap}{U:Nat→Prop}{a:Act}{w:World}{o:Oper}{r:Bool}(hst:StF N w0 H0 F H U a w)(h:A23 (P6 ops) F o.guard=some r):Region.wanted o (yielded ops a.tmps)=r:=by
 cases d:o.guard with
 |none=>rw[d]at h;cases h;simp[Region.wanted,d]
 |some p=>
  obtain⟨j,m⟩:=p;rw[d]at h;unfold A23 at h;simp only[]at h;rw[B3a]at h;cases hs:(ops[j]?).bind (·.dst)with
  |none=>
   rw[hs]at h;cases h;have e:yielded ops a.tmps j=none:=by unfold yielded;rw[hs];rfl
   simp[Region.wanted,d,e]
  |some s=>
   rw[hs]at h;simp only[]at h;have hv:=hst.env s;split at h
   ·rename_i i;cases h;rw[i]at hv;obtain⟨vs,hv,_⟩:=hv.tuple_inv;have e:yielded ops a.tmps j=none:=by
     unfold yielded;rw[hs];simp only[D13];simp only[Act.eval]at hv;cases g:a.tmps[s]? with
     |none=>rfl
     |some u=>
      simp[g]at hv;subst hv;rfl
    simp[Region.wanted,d,e]
   ·rename_i b i;cases h;rw[i]at hv;have hv:=hv.bool_inv;have e:yielded ops a.tmps j=some b:=by
     unfold yielded;rw[hs];simp only[D13];simp only[Act.eval]at hv;cases g:a.tmps[s]? with
     |none=>
      simp[g]at hv;cases hv
     |some u=>
      simp[g]at hv;subst hv;rfl
    simp[Region.wanted,d,e]
   ·cases h
theorem StF.skip{N:Nat}{w0:World}{H0:Heap}{F:FEnv}{H:Heap}{U:Nat→Prop}{a:Act}{w:World}(hst:StF N w0 H0 F H U a w){dst:Option Nat}(e: ∀t,dst=some t→t<N):StF N w0 H0 (F.put dst (.tuple [])) H U (a.put dst undef) w:=by
 refine⟨?_,?_,fun i=>?_,hst.sat,hst.ext,hst.frm,hst.dom,hst.lt⟩
 ·cases dst<;>simp[Act.put,hst.size]
 ·cases dst<;>exact hst.defers
 ·cases dst with
  |none=>exact hst.env i
  |some t=>
   have g:=e t rfl;simp only[FEnv.put];by_cases d:t=i
   ·subst d;rw[if_pos rfl];have:(a.put (some t) undef).eval (.tmp t)=undef:=by
     have h:t<a.tmps.size:=by rw[hst.size];exact g
     simp[Act.eval,Act.put,h]
    rw[this];exact .tuple [] #[] rfl (by simp)
   ·rw[if_neg d];have:(a.put (some t) undef).eval (.tmp i)=a.eval (.tmp i):=by
     simp[Act.eval,Act.put,D2D d]
    rw[this];exact hst.env i
theorem A1Z{N:Nat}{w0:World}{H0:Heap}{K:Kf}{Q:Exit→Act→World→Prop}(g: ∀o∈ops.toList,∀t,o.dst=some t→t<N)
  (j: ∀F H U a w,StF N w0 H0 F H U a w→K F H U→Q .normal a w): ∀(fuel:Nat) (d:Array Bool) (F:FEnv) (H:Heap) (U:Nat→Prop) (a:Act) (w:World),
  B4o P cs bs md ops K fuel d F H U→StF N w0 H0 F H U a w→Go.wpAny P md ops Q fuel d a w
 |0,_,F,H,U,a,w,h,hst=>⟨h.1,j _ _ _ _ _ hst h.2⟩
 |fuel+1,d,F,H,U,a,w,h,hst=>⟨fun p=>j _ _ _ _ _ hst (h.1 p),fun i q=>by
   have h1:=h.2 i q;unfold sE at h1;unfold Go.wpOp;split
   ·rename_i hn;simp only[hn]at h1;exact A1Z g j fuel _ _ _ _ _ _ h1 hst
   ·rename_i o ho;simp only[ho]at h1;have e:o∈ops.toList:=by rw[D2E];exact Array.mem_of_getElem? ho
    rcases h1 with⟨hr,h1⟩|⟨hr,h1⟩
    ·rw[if_pos (A5N hst hr)];exact .inl (opSem.wp ((B0k (g o e) h1 hst).mono fun v w' hv=>by
      obtain⟨r,H',u,m,hk⟩:=hv;exact A1Z g j fuel _ _ _ _ _ _ hk m))
    ·rw[if_neg (by rw[A5N hst hr];exact Bool.false_ne_true)];exact A1Z g j fuel _ _ _ _ _ _ h1 (hst.skip (g o e))⟩
def wpP(P:Program)(gs:List (Option Nat))(cs:Nat→CR)(bs:Nat→Bl)(K:Env→Heap→Prop):Nat→List Oper→Env→Heap→Prop
 |_,[],E,H=>K E H
 |i,o::l,E,H=>match o.guard with
  |none=>∃e,x9 P (cs i) (bs i).l E.ev H o.op=some e∧A6h (bs i) H e∧P5 P (cs i) (bs i).l E.ev H o.op∧∀b,e.okH b H→wpP P gs cs bs K (i+1) l (E.put o.dst (e.val b)) (e.app b H)
  |some (j,want)=>A18 E (I1 gs j) want
    (fun E=>∃e,x9 P (cs i) (bs i).l E.ev H o.op=some e∧A6h (bs i) H e∧P5 P (cs i) (bs i).l E.ev H o.op∧∀b,e.okH b H→wpP P gs cs bs K (i+1) l (E.put o.dst (e.val b)) (e.app b H))
    (fun E=>wpP P gs cs bs K (i+1) l (E.put o.dst (.tuple [])) H)
theorem A4j{p:List (Option Nat)}{K:Env→Heap→Prop}: ∀(l:List Oper) (i:Nat) (E:Env) (F:FEnv) (H:Heap) (U:Nat→Prop),(∀t,E.get t=F t)→Dom H U→wpP P p cs bs K i l E H→A7y P p cs bs (fun F H _=>∃E,(∀t,E.get t=F t)∧K E H) i l F H U
 | [],i,E,F,H,U,g,z,h=>⟨E,g,h⟩
 |o::l,i,E,F,H,U,g,z,h=>by
  have put: ∀(E:Env) (d:D),(∀t,E.get t=F t)→∀t,(E.put o.dst d).get t=(F.put o.dst d) t:=fun E d g t=>by
   cases o.dst with
   |none=>exact g t
   |some u=>
    simp only[Env.put,Env.get,FEnv.put];split
    ·rfl
    ·exact g t
  have y: ∀(E:Env),(∀t,E.get t=F t)→F.ev=E.ev:=fun E g=>by
   funext x
   cases x with
   |tmp t=>exact(g t).symm
   |_=>rfl
  have run: ∀(E:Env),(∀t,E.get t=F t)→(∃e,x9 P (cs i) (bs i).l E.ev H o.op=some e∧A6h (bs i) H e∧P5 P (cs i) (bs i).l E.ev H o.op∧∀b,e.okH b H→wpP P p cs bs K (i+1) l (E.put o.dst (e.val b)) (e.app b H))→
    A0c P (cs i) (bs i) o (A7y P p cs bs (fun F H _=>∃E,(∀t,E.get t=F t)∧K E H) (i+1) l) F H U:=fun E g h=>by
   obtain⟨e,he,C,q,hk⟩:=h;exact⟨e,by rw[y E g];exact he,C,by rw[y E g];exact q,fun b hb=>A4j l (i+1) (E.put o.dst (e.val b)) _ _ _ (put E _ g) (z.app hb) (hk b (C3I z hb))⟩
  have skip: ∀(E:Env),(∀t,E.get t=F t)→wpP P p cs bs K (i+1) l (E.put o.dst (.tuple [])) H→A7y P p cs bs (fun F H _=>∃E,(∀t,E.get t=F t)∧K E H) (i+1) l (F.put o.dst (.tuple [])) H U:=fun E g h=>
   A4j l (i+1) (E.put o.dst (.tuple [])) _ _ _ (put E _ g) z h
  have know: ∀(E:Env) (s:Nat) (d:D),(∀t,E.get t=F t)→E.get s=d→∀t,Env.get ((s,d)::E) t=F t:=fun E s d g hs t=>by
   simp only[Env.get];split
   ·rename_i e;subst e;rw[←hs];exact g s
   ·exact g t
  unfold wpP at h;unfold A7y;cases r:o.guard with
  |none=>
   rw[r]at h;exact .inl ⟨by rw[r];rfl,run E g h⟩
  |some J=>
   obtain⟨j,m⟩:=J;rw[r]at h;simp only[]at h;unfold A18 at h;cases hs:I1 p j with
   |none=>
    rw[hs]at h;exact .inr ⟨by rw[r];simp only[A23,hs],skip E g h⟩
   |some s=>
    rw[hs]at h;rcases h with⟨L,h⟩|⟨b,hb,h1,M⟩
    ·have A:F s= .tuple []:=by rw[←g];exact L
     exact .inr ⟨by rw[r];simp only[A23,hs,A],skip E g h⟩
    ·have A:F s= .bool b:=by rw[←g];exact hb
     by_cases G:b=m
     ·subst G;exact .inl ⟨by rw[r];simp only[A23,hs,A,beq_self_eq_true],run _ (know E s _ g hb) (h1 rfl)⟩
     ·have I:b= !m:=by cases b<;>cases m<;>simp_all
      subst I;exact .inr ⟨by rw[r];simp only[A23,hs,A];cases m<;>rfl,skip _ (know E s _ g hb) (M rfl)⟩
theorem C3J(n:Nat)(l:List Nat): ∃b,¬(b<n)∧b∉l:=by
 refine⟨n+l.sum+1,by omega,fun h=>?_⟩;have: ∀(l:List Nat) (x:Nat),x∈l→x≤l.sum:=by
  intro l
  induction l with
  |nil=>intro x hx;cases hx
  |cons y l d=>
   intro x hx;rcases D11.1 hx with rfl|hx
   ·simp
   ·have:=d x hx;simp;omega
 have:=this l _ h;omega
theorem A4k{w:World}(hs:Sat H w):Dom H (fun b=>b<w.heap.size):=⟨fun b hb=>by
 cases h:H b with
 |none=>exact absurd h hb
 |some o=>exact hs.lt h,C3J _⟩
theorem B6M{N:Nat}{w0:World}{H0:Heap}{id:Nat}{K:Env→Heap→Prop}{Q:Exit→Act→World→Prop}{a:Act}{w:World}{E:Env}(hm:P.follows .mixedOrders=true)(e:B3b P ops=true)
  (p: ∀o∈ops.toList,∀t,o.dst=some t→t<N)
  (q: ∀E H a w,a.tmps.size=N→a.defers= []→(∀i,R w H (E.get i) (a.eval (.tmp i)))→Sat H w→Ext H0 w0 w→From w0 H0 H→K E H→Q .normal a w)
  (h1:a.tmps.size=N) (r:a.defers= []) (u: ∀i,R w H (E.get i) (a.eval (.tmp i))) (x:Sat H w) (h5:Ext H0 w0 w) (m:From w0 H0 H)
  (g:B4q bs 0 ops.toList) (h:wpP P (P6 ops) cs bs K 0 ops.toList E H):(Code.region id ops true).wp P Q a w:=by
 have he:Ext H w {w with drawn:=w.drawn+1}:=Ext.drewN H w 1;have d:=x.same (w':={w with drawn:=w.drawn+1}) rfl he;refine wp_region_any hm (A1Z (P:=P) (cs:=cs) (bs:=bs) (md:=.any) (ops:=ops) (K:=fun F H _=>∃E,(∀t,E.get t=F t)∧K E H) p (fun F H U a w hst hk=>?_) ops.size _ _ _ _ a {w with drawn:=w.drawn+1} ?_
  (⟨h1,r,fun i=>(u i).mono he (D24 _ _),d,h5.trans m he,m,A4k d,fun b hb=>hb⟩:StF N w0 H0 E.get H (fun b=>b<({w with drawn:=w.drawn+1}:World).heap.size) a {w with drawn:=w.drawn+1}))
 ·obtain⟨E,y,hk⟩:=hk;exact q E H a w hst.size hst.defers (fun i=>by rw[y];exact hst.env i) hst.sat hst.ext hst.frm hk
 ·have:=B0j (P:=P) (cs:=cs) (bs:=bs) (ops:=ops) ops.toList 0 (Array.replicate ops.size false) (by simp) (by intro j;simp[Array.getElem?_replicate];split<;>rfl) (by simp) e g E.get H _ (A4k d)
   (A4j ops.toList 0 E E.get H _ (fun _=>rfl) (A4k d) h)
  simpa using this
end
section
variable {P:Program} {H H':Heap} {ev ev':Operand→D} {bl:List Nat}
theorem A09{op:Op}{K:D→Heap→Prop}(hc:I4 P op= .pure):D1 P ev H K op= ∃d,L2 P ev op=some d∧K d H:=by
 cases op
 case convert s t x=>simp only[D1,hc]
 case call cc=>
  obtain⟨callee,args,e⟩:=cc;cases callee with
  |value f=>simp[I4]at hc
  |invoke r m=>simp[I4]at hc
  |builtin b=>cases b<;>first|(simp only[D1,hc];done)|(simp[I4]at hc;done)
 all_goals first
  |rfl
  |(simp[I4]at hc;done)
  |(simp only[D1,hc];done)
theorem B2U{op:Op}{K:D→Heap→Prop}(h: ∀x∈op.operands.toList,ev x=ev' x):D1 P ev H K op=D1 P ev' H K op:=by
 by_cases hc:I4 P op= .pure
 ·rw[A09 hc,A09 hc,A17 hc h]
 ·cases op
  case load t x=>simp only[D1,h x (by simp[Op.operands])]
  case store t a x=>simp only[D1,h a (by simp[Op.operands]),h x (by simp[Op.operands])]
  case box t x=>simp only[D1,h x (by simp[Op.operands])]
  case lookup t m k ok=>simp only[D1,h m (by simp[Op.operands]),h k (by simp[Op.operands])]
  case mapUpdate t m k x=>simp only[D1,h m (by simp[Op.operands]),h k (by simp[Op.operands]),h x (by simp[Op.operands])]
  case buildSlice t n parts=>simp only[D1,A6i (ev:=ev) (ev':=ev') (l:=parts.toList) (fun x hx=>h x (by simpa [Op.operands]using hx))]
  case makeSlice t l c=>simp only[D1,h l (by simp[Op.operands]),h c (by simp[Op.operands])]
  case range t x=>simp only[D1,h x (by simp[Op.operands])]
  case next x b=>simp only[D1,h x (by simp[Op.operands])]
  case entry x=>simp only[D1,h x (by simp[Op.operands])]
  case convert s t x=>
   have hx:=h x (by simp[Op.operands]);have e1:A25 P ev H K s t x=A25 P ev' H K s t x:=by unfold A25;rw[hx]
   simp only[D1];exact e1
  case call cc=>
   obtain⟨callee,args,g⟩:=cc;cases callee with
   |value f=>
    have i:=h f (by simp[Op.operands,Call.operands]);have j:=A3F (ev:=ev) (ev':=ev') (l:=args.toList) (fun x hx=>h x (by simp[Op.operands,Call.operands];exact .inr (by simpa using hx)));simp only[D1,i,j]
   |invoke r m=>simp only[D1]
   |builtin b=>
    cases b
    case append=>
     unfold D1;simp only;split
     ·rename_i t o s x h1 e;have e1:=h s (by simp[Op.operands,Call.operands,←D2E,e]);have e2:=h x (by simp[Op.operands,Call.operands,←D2E,e]);unfold A1T;rw[e1,e2]
     ·rfl
    case len=>
     unfold D1;simp only;split
     ·rename_i x e;rw[h x (by simp[Op.operands,Call.operands,←D2E,e])]
     ·rfl
    all_goals
     unfold D1;simp only
     try(split<;>first|rfl|(rename_i d;exact absurd d hc))
  case makeMap t r=>cases r<;>first|rfl|(unfold D1;simp only;try(split<;>first|rfl|(rename_i d;exact absurd d hc)))
  all_goals first
   |rfl
   |(unfold D1;simp only;try(split<;>first|rfl|(rename_i d;exact absurd d hc)))
theorem A2g{op:Op}{K M:D→Heap→Prop}(j: ∀d H,K d H→M d H)(h:D1 P ev H K op):D1 P ev H M op:=by
 by_cases hc:I4 P op= .pure
 ·rw[A09 hc]at h⊢;obtain⟨d,h1,o⟩:=h;exact⟨d,h1,j _ _ o⟩
 ·cases op
  case load t x=>obtain⟨d,h1,o⟩:=h;exact⟨d,h1,j _ _ o⟩
  case store t a x=>obtain⟨d,h1,o⟩:=h;exact⟨d,h1,j _ _ o⟩
  case box t x=>exact⟨h.1,fun b hb=>j _ _ (h.2 b hb)⟩
  case alloc t=>obtain⟨z,h1,o⟩:=h;exact⟨z,h1,fun b hb=>j _ _ (o b hb)⟩
  case lookup t m k ok=>obtain⟨d,h1,o⟩:=h;exact⟨d,h1,j _ _ o⟩
  case mapUpdate t m k x=>obtain⟨d,h1,o⟩:=h;exact⟨d,h1,j _ _ o⟩
  case buildSlice t n parts=>obtain⟨e,sz,u,z,es,h1,o,y,A,h5,q,O⟩:=h;exact⟨e,sz,u,z,es,h1,o,y,A,h5,q,fun b hb=>j _ _ (O b hb)⟩
  case makeSlice t l c=>obtain⟨e,sz,u,z,k,n,k',m,h1,o,y,A,h5,q,O,h8,h9,T,U⟩:=h;exact⟨e,sz,u,z,k,n,k',m,h1,o,y,A,h5,q,O,h8,h9,T,fun b hb=>j _ _ (U b hb)⟩
  case range t x=>
   unfold D1 at h⊢;simp only at h⊢;split at h
   ·exact⟨h.1,fun b hb=>j _ _ (h.2 b hb)⟩
   ·exact⟨h.1,fun b hb=>j _ _ (h.2 b hb)⟩
   ·exact h.elim
  case next x b=>
   unfold D1 at h⊢;simp only at h⊢;split at h
   ·split at h
    ·rename_i h1 o _ _ _ _;exact⟨fun g=>j _ _ (h.1 g),fun g=>j _ _ (h.2 g)⟩
    ·exact h.elim
   ·split at h
    ·exact⟨fun i p J C=>j _ _ (h.1 i p J C),fun g=>j _ _ (h.2 g)⟩
    ·exact h.elim
   ·exact h.elim
  case entry x=>
   unfold D1 at h⊢;simp only at h⊢;split at h
   ·split at h
    ·obtain⟨i,p,J,C,L⟩:=h;exact⟨i,p,J,C,j _ _ L⟩
    ·exact h.elim
   ·exact h.elim
  case convert s t x=>
   have e1:A25 P ev H K s t x→A25 P ev H M s t x:=fun h=>by
    unfold A25 at h⊢;split at h
    ·exact⟨h.1,h.2.1,fun b hb=>j _ _ (h.2.2 b hb)⟩
    ·rcases h with⟨h1,o,z,y,A⟩|⟨h1,o,b,z,y,A,h5,q⟩
     ·exact .inl ⟨h1,o,z,y,j _ _ A⟩
     ·exact .inr ⟨h1,o,b,z,y,A,h5,j _ _ q⟩
   simp only[D1]at h⊢;exact e1 h
  case call cc=>
   obtain⟨callee,args,a0⟩:=cc;cases callee with
   |value f=>
    unfold D1 at h⊢;simp only at h⊢;split at h
    ·exact ACalls.mono h j
    ·exact h.elim
   |invoke r m=>unfold D1 at h;simp only at h;try(split at h<;>first|exact h.elim|(rename_i G;exact absurd G hc))
   |builtin b=>
    cases b
    case append=>
     unfold D1 at h⊢;simp only at h⊢;split at h
     ·unfold A1T at h⊢;obtain⟨e,sz,u,h1,o,y,A,xs,h5,q⟩:=h;refine⟨e,sz,u,h1,o,y,A,xs,h5,?_⟩;split at q
      ·exact⟨q.1,q.2.1,fun g=>j _ _ (q.2.2.1 g),fun g b hb=>j _ _ (q.2.2.2 g b hb)⟩
      ·refine⟨q.1,?_⟩;rcases q.2 with⟨J,es,C,L,V,W,X⟩|⟨es,C,L,V,W,X⟩
       ·exact .inl ⟨J,es,C,L,V,W,fun Y I=>j _ _ (X Y I)⟩
       ·exact .inr ⟨es,C,L,V,W,fun Y pre I=>j _ _ (X Y pre I)⟩
      ·exact q.elim
     ·exact h.elim
    case len=>
     have e1:(match args.toList with| [x]=>∃kvs,Y9 H (ev x)=some kvs∧K (.int .i64 kvs.length) H|_=>False)→(match args.toList with| [x]=>∃kvs,Y9 H (ev x)=some kvs∧M (.int .i64 kvs.length) H|_=>False):=fun h=>by
      split at h
      ·obtain⟨kvs,h1,o⟩:=h;exact⟨kvs,h1,j _ _ o⟩
      ·exact h.elim
     unfold D1 at h⊢;simp only at h⊢;exact e1 h
    all_goals
     unfold D1 at h;simp only at h
     try(split at h<;>first|exact h.elim|(rename_i G;exact absurd G hc))
  case makeMap t r=>
   cases r with
   |none=>exact fun b hb=>j _ _ (h b hb)
   |some x=>unfold D1 at h;simp only at h;try(split at h<;>first|exact h.elim|(rename_i G;exact absurd G hc))
  all_goals (unfold D1 at h;simp only at h;try(split at h<;>first|exact h.elim|(rename_i G;exact absurd G hc)))
def B6N(bl:List Nat)(ev:Operand→D):Op→Prop
 | .load _ x=>∀b∈rdB (ev x),b∈bl
 |_=>False
abbrev Kg:=FEnv→Heap→Prop
def B2V(P:Program)(bl:List Nat)(o:Oper)(K:Kg)(F:FEnv)(H:Heap):Prop:=
 o.guard=none∧(I4 P o.op= .load→B6N bl F.ev o.op)∧D1 P F.ev H (fun d H'=>(∀k∈bl,H' k=H k)∧K (F.put o.dst d) H') o.op
theorem B4s{o:Oper}{K e:Kg}(h: ∀F H,K F H→e F H){F:FEnv}{H:Heap}(hk:B2V P bl o K F H):B2V P bl o e F H:=
 ⟨hk.1,hk.2.1,A2g (fun d H' g=>⟨g.1,h _ _ g.2⟩) hk.2.2⟩
def C6d(P:Program)(o:Oper)(K:Kg)(F:FEnv)(H:Heap):Prop:=
 o.guard=none∧D1 P F.ev H (fun d H'=>K (F.put o.dst d) H') o.op
def Yld(P:Program)(bl:List Nat)(o:Oper)(d:D)(F:FEnv)(H:Heap):Prop:=
 (I4 P o.op= .pure∧L2 P F.ev o.op=some d)∨∃t x,o.op= .load t x∧(∀b∈rdB (F.ev x),b∈bl)∧A0H P t (F.ev x) H=some d
theorem C3K{o:Oper}{K:Kg}{F:FEnv}{H:Heap}(hc:I4 P o.op≠ .eff)(h:B2V P bl o K F H):o.guard=none∧∃d,Yld P bl o d F H∧K (F.put o.dst d) H:=by
 obtain⟨h1,j,g⟩:=h;refine⟨h1,?_⟩;cases e:I4 P o.op with
 |pure=>
  rw[A09 e]at g;obtain⟨d,i,_,h5⟩:=g;exact⟨d,.inl ⟨e,i⟩,h5⟩
 |load=>
  have hr:=j e;obtain⟨dst,op,ty,pos,after,guard⟩:=o;cases op<;>try exact hr.elim
  rename_i t x;obtain⟨d,i,_,h5⟩:=g;exact⟨d,.inr ⟨t,x,rfl,hr,i⟩,h5⟩
 |eff=>exact absurd e hc
theorem A6j{o:Oper}{K:Kg}{F:FEnv}{H:Heap}{d:D}(e:o.guard=none)(i:Yld P bl o d F H)(h:K (F.put o.dst d) H):B2V P bl o K F H:=by
 rcases i with⟨hc,hp⟩|⟨t,x,ho,hr,hl⟩
 ·refine⟨e,(fun g=>by rw[hc]at g;cases g),?_⟩;rw[A09 hc];exact⟨d,hp,fun _ _=>rfl,h⟩
 ·refine⟨e,fun _=>by rw[ho];exact hr,?_⟩;rw[ho];exact⟨d,hl,fun _ _=>rfl,h⟩
theorem Yld.keep{ops:Array Oper}{o:Oper}{d:D}{F:FEnv}{H H':Heap}{dst:Option Tmp}{e:D}(h:Yld P bl o d F H)(i: ∀t,dst=some t→t∉o.looksAt ops)(j: ∀k∈bl,H' k=H k):Yld P bl o d (F.put dst e) H':=by
 have g:=R0 (F:=F) (ops:=ops) (o:=o) (dst:=dst) (d:=e) i;rcases h with⟨hc,hp⟩|⟨t,x,ho,hr,hl⟩
 ·exact .inl ⟨hc,by rw[A17 hc g];exact hp⟩
 ·have hx:=g x (by rw[ho];simp[Op.operands]);refine .inr ⟨t,x,ho,by rw[hx];exact hr,?_⟩;rw[hx];unfold A0H at hl⊢;obtain⟨s,hs,hl⟩:=D1l.1 hl;obtain⟨cs,hc,hl⟩:=D1l.1 hl;rw[hs,D13,A7w hc (fun b hb=>j b (hr b hb)),D13];exact hl
section
variable {ops:Array Oper} {md:Region.Mode}
def A27(P:Program)(ops:Array Oper)(j:Nat):Bool:=match ops[j]? with
 |some o=>I4 P o.op== .eff&&(List.range ops.size).all fun i=>match ops[i]? with
  |some oi=>I4 P oi.op== .eff||o.after.any fun e=>Region.binds .any e&&e.on==i
  |none=>true
 |none=>false
theorem A2h{j:Nat}{o:Oper}(ho:ops[j]? =some o)(h:I4 P o.op≠ .eff):A27 P ops j=false:=by
 cases g:A27 P ops j with
 |false=>rfl
 |true=>
  unfold A27 at g;rw[ho]at g;simp only[D1m,beq_iff_eq]at g;exact absurd g.1 h
theorem B2W{i j:Nat}{d oj:Oper}(m:ops[i]? =some d)(o:ops[j]? =some oj)(h:I4 P d.op≠ .eff)(g:A27 P ops j=true): ∃e∈oj.after,Region.binds .any e=true∧e.on=i:=by
 unfold A27 at g;rw[o]at g;simp only[D1m,D2A,List.mem_range]at g;have:=g.2 i (D1y.1 m).1;rw[m]at this;simp only[D2w,beq_iff_eq]at this;rcases this with k|k
 ·exact absurd k h
 ·obtain⟨e,he,hb⟩:=Array.any_eq_true'.1 k;simp only[D1m,beq_iff_eq]at hb;exact⟨e,he,hb.1,hb.2⟩
theorem A8z{o:Oper}{d:D}{F:FEnv}{H:Heap}(h:Yld P bl o d F H):I4 P o.op≠ .eff:=by
 rcases h with⟨hc,_⟩|⟨t,x,ho,_⟩
 ·rw[hc];intro e;cases e
 ·rw[ho];intro e;simp[I4]at e
def sG(P:Program)(bl:List Nat)(ops:Array Oper)(i:Nat)(K:Kg):Kg:=match ops[i]? with
 |none=>K
 |some o=>B2V P (if A27 P ops i=true then []else bl) o K
theorem B9o{i:Nat}{K d:Kg}(h: ∀F H,K F H→d F H){F:FEnv}{H:Heap}(hk:sG P bl ops i K F H):sG P bl ops i d F H:=by
 unfold sG at hk⊢;cases e:ops[i]? with
 |none=>rw[e]at hk;exact h _ _ hk
 |some o=>rw[e]at hk;exact B4s h hk
def A80(P:Program)(bl:List Nat)(md:Region.Mode)(ops:Array Oper)(K:Kg):Nat→Array Bool→Kg
 |0,listed=>fun F H=>Region.ready md ops listed= []∧K F H
 |fuel+1,listed=>fun F H=>(Region.ready md ops listed= []→K F H)∧∀i∈Region.ready md ops listed,sG P bl ops i (A80 P bl md ops K fuel (listed.setIfInBounds i true)) F H
theorem B2X{K:Kg}{i:Nat}{r:Oper}{d:D}{W:Nat→Prop}(C:ops[i]? =some r)(G:r.guard=none)(hW:Closed .any ops i W):
  ∀(fuel:Nat) (m:Array Bool) (F:FEnv) (H:Heap),(∀j,W j→m.getD j false=false)→
   (∀j oj,ops[j]? =some oj→¬W j→m.getD j true=false→r.apart ops oj=true)→
   i∈Region.ready .any ops m→Yld P bl r d F H→A80 P bl .any ops K fuel (m.setIfInBounds i true) (F.put r.dst d) H→A80 P bl .any ops K (fuel+1) m F H:=by
 intro fuel
 induction fuel with
 |zero=>
  intro m F H _ _ hr z h;refine⟨fun V=>(by rw[V]at hr;cases hr),fun j I=>?_⟩;by_cases p:j=i
  ·subst p;unfold sG;simp only[C,A2h C (A8z z),D1p,if_false];exact A6j G z h
  ·have:=ready_mono I p;rw[h.1]at this;cases this
 |succ fuel ih=>
  intro m F H J q hr z h;refine⟨fun V=>(by rw[V]at hr;cases hr),fun j I=>?_⟩;by_cases p:j=i
  ·subst p;unfold sG;simp only[C,A2h C (A8z z),D1p,if_false];exact A6j G z h
  ·obtain⟨y,oj,A,X⟩:=mem_ready.1 I;have Y:A27 P ops j=false:=by
    cases g:A27 P ops j with
    |false=>rfl
    |true=>
     obtain⟨e,he,hb,rfl⟩:=B2W C A (A8z z) g;have h1:=X e he hb;obtain⟨L,_⟩:=mem_ready.1 hr;rw[J2 L]at h1;cases h1
   have M:=hW.not_ready J I p;have a0:=q j oj A M y;obtain⟨a1,a2,a3⟩:=Oper.apart_spec a0;have O: ∀k,W k→(m.setIfInBounds j true).getD k false=false:=fun k hk=>by
    rw[W8 (fun e:j=k=>M (by rw[e];exact hk))];exact J k hk
   have u: ∀k ok,ops[k]? =some ok→¬W k→(m.setIfInBounds j true).getD k true=false→r.apart ops ok=true:=fun k ok hk a4 hu=>by
    refine q k ok hk a4 ?_;by_cases T:j=k
    ·subst T;exact y
    ·rw[getD_set_ne true T]at hu;exact hu
   have h1:=h.2 j (ready_mono I p);unfold sG at h1⊢;simp only[A,Y,D1p,if_false]at h1⊢;obtain⟨g1,g2,g3⟩:=h1;have U:=R0 (F:=F) (ops:=ops) (o:=oj) (dst:=r.dst) (d:=d) a1;refine⟨g1,fun hl=>?_,?_⟩
   ·have a5:=g2 hl;have key: ∀op:Op,(∀x∈op.operands.toList,(F.put r.dst d).ev x=F.ev x)→B6N bl (F.put r.dst d).ev op→B6N bl F.ev op:=fun op hv hr=>by
     cases op with
     |load t x=>
      have hx:=hv x (by simp[Op.operands]);show∀b∈rdB (F.ev x),b∈bl;rw[←hx];exact hr
     |_=>exact hr.elim
    exact key _ U a5
   ·rw[B2U U]at g3;refine A2g (fun e H' hk=>⟨hk.1,ih (m.setIfInBounds j true) (F.put oj.dst e) H' O u (ready_mono hr (Ne.symm p)) (z.keep a3 hk.1) ?_⟩) g3;rw[Array.setIfInBounds_comm _ _ p,←A19 a2];exact hk.2
theorem B4t{K:Kg}{i:Nat}{r:Oper}{W:Nat→Prop}(y:ops[i]? =some r)(u:Closed .any ops i W)(fuel:Nat)(d:Array Bool)(F:FEnv)(H:Heap)(o: ∀j,W j→d.getD j false=false)
  (e: ∀j oj,ops[j]? =some oj→d.getD j true=false→W j) (hr:i∈Region.ready .any ops d) (h:sG P bl ops i (A80 P bl .any ops K fuel (d.setIfInBounds i true)) F H):A80 P bl .any ops K (fuel+1) d F H:=by
 refine⟨fun x=>(by rw[x]at hr;cases hr),fun j q=>?_⟩;by_cases g:j=i
 ·subst g;exact h
 ·obtain⟨m,oj,p,_⟩:=mem_ready.1 q;exact absurd (e j oj p m) (u.not_ready o q g)
def C16(ops:Array Oper)(i:Nat)(acc:List Nat)(j:Nat):Bool:=match ops[j]? with
 |some o=>o.after.any fun e=>Region.binds .any e&&(e.on==i||acc.contains e.on)
 |none=>false
def A5O(ops:Array Oper)(i:Nat):List Nat→List Nat→List Nat
 | [],acc=>acc
 |j::l,acc=>A5O ops i l (if C16 ops i acc j=true then j::acc else acc)
def K9(P:Program)(ops:Array Oper):List Nat→List Nat→Bool
 | [],done=>(List.range ops.size).all fun i=>done.contains i
 |i::l,done=>(match ops[i]? with
  |some o=>(o.after.all fun e=> !Region.binds .any e||done.contains e.on)&&o.guard.isNone&& !done.contains i&& !l.contains i&&
    l.all fun j=>(A5O ops i l []).contains j||(I4 P o.op != .eff&&match ops[j]? with|some oj=>o.apart ops oj|none=>false)
  |none=>false)&&K9 P ops l (i::done)
def B6O(P:Program)(ops:Array Oper)(perm:List Nat):Bool:=decide (perm.length=ops.size)&&K9 P ops perm []&&match perm.getLast? with|some i=>A27 P ops i|none=>true
theorem A1a{i:Nat}: ∀(l m:List Nat),(∀j∈m,∃oj,ops[j]? =some oj∧∃e∈oj.after,Region.binds .any e=true∧(e.on=i∨e.on∈m))→
  (∀j∈A5O ops i l m,∃oj,ops[j]? =some oj∧∃e∈oj.after,Region.binds .any e=true∧(e.on=i∨e.on∈A5O ops i l m))∧(∀j∈m,j∈A5O ops i l m)∧∀j∈A5O ops i l m,j∈m∨j∈l
 | [],m,h=>⟨h,fun j p=>p,fun j p=>.inl p⟩
 |k::l,m,h=>by
  unfold A5O;split
  ·rename_i hc;have q: ∃oj,ops[k]? =some oj∧∃e∈oj.after,Region.binds .any e=true∧(e.on=i∨e.on∈m):=by
    unfold C16 at hc;split at hc
    ·rename_i o ho;obtain⟨e,he,hb⟩:=Array.any_eq_true'.1 hc;simp only[D1m,D2w,beq_iff_eq,List.contains_iff_mem]at hb;exact⟨o,ho,e,he,hb.1,hb.2⟩
    ·cases hc
   obtain⟨h1,r,u⟩:=A1a l (k::m) (fun j p=>by
    rcases D11.1 p with rfl|p
    ·obtain⟨oj,a,e,b,c,d⟩:=q;exact⟨oj,a,e,b,c,d.imp id (D1r _)⟩
    ·obtain⟨oj,a,e,b,c,d⟩:=h j p;exact⟨oj,a,e,b,c,d.imp id (D1r _)⟩)
   exact⟨h1,fun j p=>r j (D1r _ p),fun j p=>by
    rcases u j p with g|g
    ·rcases D11.1 g with rfl|g
     ·exact .inr (D1k ..)
     ·exact .inl g
    ·exact .inr (D1r _ g)⟩
  ·obtain⟨h1,r,u⟩:=A1a l m h;exact⟨h1,r,fun j p=>(u j p).imp id (D1r _)⟩
def B6P(P:Program)(bl:List Nat)(ops:Array Oper)(K:Kg):List Nat→Kg
 | []=>K
 |i::l=>sG P bl ops i (B6P P bl ops K l)
theorem B4u{K:Kg}: ∀(l done:List Nat) (m:Array Bool),(∀j,m.getD j false=true↔j∈done)→m.size=ops.size→K9 P ops l done=true→
  ∀F H,B6P P bl ops K l F H→A80 P bl .any ops K l.length m F H:=by
 intro l
 induction l with
 |nil=>
  intro done m L hsz p F H h;refine⟨?_,h⟩;cases hr:Region.ready .any ops m with
  |nil=>rfl
  |cons x xs=>
   exfalso;have hx:x∈Region.ready .any ops m:=by rw[hr];simp
   obtain⟨h0,o,ho,_⟩:=mem_ready.1 hx;have M:=(D1y.1 ho).1;simp only[K9,D2A,List.mem_range,List.contains_iff_mem]at p;have:=(L x).2 (p x M);rw[J2 h0]at this;cases this
 |cons i l ih=>
  intro done m L hsz p F H h;simp only[K9,D1m]at p;obtain⟨p,u⟩:=p;cases I:ops[i]? with
  |none=>rw[I]at p;cases p
  |some oi=>
  rw[I]at p;simp only[D1m,Bool.not_eq_true',Option.isNone_iff_eq_none,D2A,D2w,List.contains_iff_mem,bne_iff_ne,ne_eq]at p;obtain⟨⟨⟨⟨he,hg⟩,X⟩,Y⟩,A⟩:=p;have b6:=(D1y.1 I).1;have J:i∉done:=fun g=>by rw[List.contains_iff_mem.2 g]at X;cases X
  have b7:i∉l:=fun g=>by rw[List.contains_iff_mem.2 g]at Y;cases Y
  have y:i∈Region.ready .any ops m:=by
   rw[mem_ready];refine⟨?_,oi,I,fun e b0 hb=>?_⟩
   ·have hf:m.getD i false=false:=by
     cases hh:m.getD i false with
     |false=>rfl
     |true=>exact absurd ((L i).1 hh) J
    have O:i<m.size:=by omega
    simp[O]at hf⊢;exact hf
   ·rw[L];rw[Array.all_eq_true_iff_forall_mem]at he;have:=he e b0;simpa [hb]using this
  have b1: ∀j,(m.setIfInBounds i true).getD j false=true↔j∈i::done:=fun j=>by
   by_cases T:i=j
   ·subst T;have O:i<m.size:=by omega
    simp[O]
   ·rw[getD_set_ne false T,L];simp[Ne.symm T]
  have a0:(m.setIfInBounds i true).size=ops.size:=by simpa using hsz
  obtain⟨w1,_,w3⟩:=A1a (ops:=ops) (i:=i) l [] (fun j q=>by cases q)
  let W:Nat→Prop:=fun j=>j=i∨j∈A5O ops i l []
  have a4:Closed .any ops i W:=by
   refine⟨.inl rfl,fun j oj q b2 r=>?_⟩;rcases q with q|q
   ·exact absurd q b2
   ·obtain⟨b8,a,e,b,c,d⟩:=w1 j q;rw[r]at a;cases a;exact⟨e,b,c,d⟩
  --what comes later is not listed
  have C: ∀(l done:List Nat),K9 P ops l done=true→∀j∈l,j∉done:=by
   intro l
   induction l with
   |nil=>intro _ _ j q;cases q
   |cons k l U=>
    intro done p j q;simp only[K9,D1m]at p;obtain⟨p,b3⟩:=p;rcases D11.1 q with rfl|q
    ·split at p
     ·simp only[D1m,Bool.not_eq_true']at p;intro g;rw[List.contains_iff_mem.2 g]at p;simp at p
     ·cases p
    ·exact fun g=>U (k::done) b3 j q (D1r _ g)
  have a5: ∀j,W j→m.getD j false=false:=fun j q=>by
   cases hh:m.getD j false with
   |false=>rfl
   |true=>
    have hd:=(L j).1 hh;rcases q with rfl|q
    ·exact absurd hd J
    ·rcases w3 j q with g|g
     ·cases g
     ·exact absurd (D1r _ hd) (C l (i::done) u j g)
  --all that is not listed stands in the list
  have G: ∀(l done:List Nat),K9 P ops l done=true→∀j,j<ops.size→j∈done∨j∈l:=by
   intro l
   induction l with
   |nil=>
    intro done p j q;simp only[K9,D2A,List.mem_range,List.contains_iff_mem]at p;exact .inl (p j q)
   |cons k l U=>
    intro done p j q;simp only[K9,D1m]at p;rcases U (k::done) p.2 j q with g|g
    ·rcases D11.1 g with rfl|g
     ·exact .inr (D1k ..)
     ·exact .inl g
    ·exact .inr (D1r _ g)
  have z: ∀j oj,ops[j]? =some oj→m.getD j true=false→j=i∨j∈l:=fun j oj r hu=>by
   have M:=(D1y.1 r).1;have hf:=J2 hu;rcases G l (i::done) u j M with g|g
   ·rcases D11.1 g with rfl|g
    ·exact .inl rfl
    ·rw[(L j).2 g]at hf;cases hf
   ·exact .inr g
  have hst:sG P bl ops i (A80 P bl .any ops K l.length (m.setIfInBounds i true)) F H:=B9o (fun F' H' g=>ih (i::done) _ b1 a0 u F' H' g) h;by_cases hc:I4 P oi.op= .eff
  ·refine B4t I a4 l.length m F H a5 (fun j oj r hu=>?_) y hst;rcases z j oj r hu with rfl|V
   ·exact .inl rfl
   ·rcases A j V with g|g
    ·exact .inr g
    ·exact absurd hc g.1
  ·have a6:B2V P bl oi (A80 P bl .any ops K l.length (m.setIfInBounds i true)) F H:=by
    unfold sG at hst;simpa only[I,A2h I hc,D1p,if_false]using hst
   obtain⟨b4,d,hy,hK⟩:=C3K hc a6;refine B2X I b4 a4 l.length m F H a5 (fun j oj r a9 hu=>?_) y hy hK;rcases z j oj r hu with rfl|V
   ·exact absurd (.inl rfl) a9
   ·rcases A j V with g|g
    ·exact absurd (.inr g) a9
    ·have:=g.2;rw[r]at this;exact this
structure StO(N:Nat)(w0:World)(H0:Heap)(F:FEnv)(H:Heap)(a:Act)(w:World):Prop where
 size:a.tmps.size=N
 defers:a.defers= []
 env: ∀i,R w H (F i) (a.eval (.tmp i))
 sat:Sat H w
 ext:Ext H0 w0 w
 frm:From w0 H0 H
theorem StO.evR{N:Nat}{w0:World}{H0:Heap}{F:FEnv}{a:Act}{w:World}(h:StO N w0 H0 F H a w)(x:Operand):R w H (F.ev x) (a.eval x):=by
 cases x with
 |tmp t=>exact h.env t
 |const v=>exact A2b w H v
 |global g=>exact .glob g
 |func f=>exact .fn _ _ _ _ _ rfl rfl (by simp) (by simp)
theorem A6k{N:Nat}{w0:World}{H0:Heap}{o:Oper}{K:Kg}{F:FEnv}{a:Act}{w:World}(q: ∀t,o.dst=some t→t<N)(h:C6d P o K F H)(hst:StO N w0 H0 F H a w):
  opSem P none o a w fun v w'=>∃p H',StO N w0 H0 p H' (a.put o.dst v) w'∧K p H':=by
 refine(O2 (o:=o) hst.sat hst.evR h.2).mono fun v w' hp=>?_;obtain⟨d,H',r,u,j,m,hk⟩:=hp;refine⟨F.put o.dst d,H',⟨?_,?_,fun i=>?_,u,hst.ext.trans hst.frm j,hst.frm.trans hst.ext.size m⟩,hk⟩
 ·cases e:o.dst<;>simp[Act.put,hst.size]
 ·cases e:o.dst<;>simp[Act.put,hst.defers]
 ·cases e:o.dst with
  |none=>exact(hst.env i).mono j m
  |some t=>
   have x:=q t e;simp only[FEnv.put];by_cases g:t=i
   ·subst g;rw[if_pos rfl];have:(a.put (some t) v).eval (.tmp t)=v:=by
     have y:t<a.tmps.size:=by rw[hst.size];exact x
     simp[Act.eval,Act.put,y]
    rw[this];exact r
   ·rw[if_neg g];have:(a.put (some t) v).eval (.tmp i)=a.eval (.tmp i):=by
     simp[Act.eval,Act.put,D2D g]
    rw[this];exact(hst.env i).mono j m
theorem B2Y{N:Nat}{w0:World}{H0:Heap}{o:Oper}{K:Kg}{F:FEnv}{a:Act}{w:World}(e: ∀t,o.dst=some t→t<N)(h:B2V P bl o K F H)(hst:StO N w0 H0 F H a w):
  opSem P none o a w fun v w'=>∃d H',StO N w0 H0 d H' (a.put o.dst v) w'∧K d H':=A6k e ⟨h.1,A2g (fun _ _ g=>g.2) h.2.2⟩ hst
theorem A3I{N:Nat}{w0:World}{H0:Heap}{K:Kg}{Q:Exit→Act→World→Prop}(m: ∀o∈ops.toList,∀t,o.dst=some t→t<N)
  (j: ∀F H a w,StO N w0 H0 F H a w→K F H→Q .normal a w): ∀(fuel:Nat) (d:Array Bool) (F:FEnv) (H:Heap) (a:Act) (w:World),
  A80 P bl md ops K fuel d F H→StO N w0 H0 F H a w→Go.wpAny P md ops Q fuel d a w
 |0,_,F,H,a,w,h,hst=>⟨h.1,j _ _ _ _ hst h.2⟩
 |fuel+1,d,F,H,a,w,h,hst=>⟨fun p=>j _ _ _ _ hst (h.1 p),fun i q=>by
   have h1:=h.2 i q;unfold sG at h1;unfold Go.wpOp;split
   ·rename_i hn;simp only[hn]at h1;exact A3I m j fuel _ _ _ _ _ h1 hst
   ·rename_i o ho;simp only[ho]at h1;have e:o∈ops.toList:=by rw[D2E];exact Array.mem_of_getElem? ho
    rw[if_pos (by simp[Region.wanted,h1.1])];exact .inl (opSem.wp ((B2Y (m o e) h1 hst).mono fun v w' hv=>by
     obtain⟨r,H',g,hk⟩:=hv;exact A3I m j fuel _ _ _ _ _ hk g))⟩
def A2A:List Oper→Nat→Option Oper
 | [],_=>none
 |o::_,0=>some o
 |_::l,i+1=>A2A l i
theorem B0l: ∀(l:List Oper) (i:Nat),A2A l i=l[i]?
 | [],_=>rfl
 |_::_,0=>rfl
 |_::l,i+1=>by rw[A2A,B0l l i];rfl
def wpG(P:Program)(bl:List Nat)(K:Env→Heap→Prop):List (Option Oper)→Env→Heap→Prop
 | [],E,H=>K E H
 |none::l,E,H=>False
 |some o::l,E,H=>(I4 P o.op= .load→B6N bl E.ev o.op)∧D1 P E.ev H (fun d H'=>(l= []∨∀k∈bl,H' k=H k)∧wpG P bl K l (E.put o.dst d) H') o.op
theorem B0m{K:Env→Heap→Prop}(y: ∀(i:Nat) (o:Oper),ops[i]? =some o→o.guard=none): ∀(l:List Nat) (E:Env) (F:FEnv) (H:Heap),(∀i,l.getLast?=some i→A27 P ops i=true)→(∀t,E.get t=F t)→wpG P bl K (l.map (A2A ops.toList)) E H→
  B6P P bl ops (fun F H=>∃E,(∀t,E.get t=F t)∧K E H) l F H
 | [],E,F,H,hl,p,h=>⟨E,p,h⟩
 |i::l,E,F,H,hl,p,h=>by
  have q:F.ev=E.ev:=by
   funext x
   cases x with
   |tmp t=>exact(p t).symm
   |_=>rfl
  show sG P bl ops i _ F H;unfold sG;rw[D2q,B0l,Array.getElem?_toList]at h;cases m:ops[i]? with
  |none=>rw[m]at h;exact h.elim
  |some o=>
   rw[m]at h;obtain⟨h1,z⟩:=h;simp only;refine⟨y i o m,fun hc=>?_,?_⟩
   ·rw[A2h m (by rw[hc];intro e;cases e),q];exact h1 hc
   rw[q];refine A2g (fun d H' hk=>⟨fun k j=>?_,B0m y l (E.put o.dst d) _ H' (fun i m=>?_) (fun t=>?_) hk.2⟩) z
   ·rcases hk.1 with g|g
    ·have r:l= []:=by simpa using g
     subst r;rw[hl i (by simp)]at j;simp at j
    ·refine g k ?_;split at j
     ·cases j
     ·exact j
   ·refine hl i ?_;cases l with
    |nil=>cases m
    |cons x l=>rw[List.getLast?_cons_cons];exact m
   cases o.dst with
   |none=>exact p t
   |some u=>
    simp only[Env.put,Env.get,FEnv.put];split
    ·rfl
    ·exact p t
theorem A5P: ∀(l done:List Nat),K9 P ops l done=true→∀(i:Nat) (o:Oper),i∈l→ops[i]? =some o→o.guard=none
 | [],_,_,i,_,d,_=>by cases d
 |k::l,done,h,i,o,d,ho=>by
  simp only[K9,D1m]at h;rcases D11.1 d with rfl|d
  ·rw[ho]at h;simp only[D1m,Option.isNone_iff_eq_none]at h;exact h.1.1.1.1.2
  ·exact A5P l (k::done) h.2 i o d ho
theorem okOrd_cover: ∀(l done:List Nat),K9 P ops l done=true→∀j,j<ops.size→j∈done∨j∈l
 | [],done,h,j,d=>by
  simp only[K9,D2A,List.mem_range,List.contains_iff_mem]at h;exact .inl (h j d)
 |k::l,done,h,j,d=>by
  simp only[K9,D1m]at h;rcases okOrd_cover l (k::done) h.2 j d with g|g
  ·rcases D11.1 g with rfl|g
   ·exact .inr (D1k ..)
   ·exact .inl g
  ·exact .inr (D1r _ g)
theorem B6Q{N:Nat}{w0:World}{H0:Heap}{id:Nat}{perm:List Nat}{K:Env→Heap→Prop}{Q:Exit→Act→World→Prop}{a:Act}{w:World}{E:Env}(hm:P.follows .mixedOrders=true)(d:B6O P ops perm=true)
  (q: ∀o∈ops.toList,∀t,o.dst=some t→t<N)
  (r: ∀E H a w,a.tmps.size=N→a.defers= []→(∀i,R w H (E.get i) (a.eval (.tmp i)))→Sat H w→Ext H0 w0 w→From w0 H0 H→K E H→Q .normal a w)
  (h1:a.tmps.size=N) (u:a.defers= []) (x: ∀i,R w H (E.get i) (a.eval (.tmp i))) (y:Sat H w) (h5:Ext H0 w0 w) (p:From w0 H0 H)
  (h:wpG P bl K (perm.map (A2A ops.toList)) E H):(Code.region id ops true).wp P Q a w:=by
 simp only[B6O,D1m,D1v]at d;obtain⟨⟨hlen,d⟩,e⟩:=d;have z: ∀(i:Nat) (o:Oper),ops[i]? =some o→o.guard=none:=fun i o ho=>by
  rcases okOrd_cover perm [] d i (D1y.1 ho).1 with g|g
  ·cases g
  ·exact A5P perm [] d i o g ho
 have he:Ext H w {w with drawn:=w.drawn+1}:=Ext.drewN H w 1;have m:=y.same (w':={w with drawn:=w.drawn+1}) rfl he;refine wp_region_any hm ?_;rw[←hlen];refine A3I (P:=P) (bl:=bl) (md:=.any) (ops:=ops) (N:=N) (w0:=w0) (H0:=H0) (K:=fun F H=>∃E,(∀t,E.get t=F t)∧K E H) q (fun F H a w hst hk=>?_) perm.length _ E.get H a _ ?_ ?_
 ·obtain⟨E,A,hk⟩:=hk;exact r E H a w hst.size hst.defers (fun i=>by rw[A];exact hst.env i) hst.sat hst.ext hst.frm hk
 ·exact B4u perm [] _ (fun j=>by simp[Array.getElem?_replicate];split<;>simp) (by simp[hlen]) d E.get H (B0m z perm E E.get H (fun i C=>by rw[C]at e;exact e) (fun _=>rfl) h)
 ·exact⟨h1,u,fun i=>(x i).mono he (D24 _ _),m,h5.trans p he,p⟩
def C3L(P:Program)(ops:Array Oper)(K:Kg):Nat→Array Bool→Kg
 |0,listed=>fun F H=>Region.ready .any ops listed= []∧K F H
 |fuel+1,listed=>fun F H=>(Region.ready .any ops listed= []→K F H)∧∀i∈Region.ready .any ops listed,∀o,ops[i]? =some o→C6d P o (C3L P ops K fuel (listed.setIfInBounds i true)) F H
theorem A6l{N:Nat}{w0:World}{H0:Heap}{K:Kg}{Q:Exit→Act→World→Prop}(m: ∀o∈ops.toList,∀t,o.dst=some t→t<N)
  (j: ∀F H a w,StO N w0 H0 F H a w→K F H→Q .normal a w): ∀(fuel:Nat) (d:Array Bool) (F:FEnv) (H:Heap) (a:Act) (w:World),
  C3L P ops K fuel d F H→StO N w0 H0 F H a w→Go.wpAny P .any ops Q fuel d a w
 |0,_,F,H,a,w,h,hst=>⟨h.1,j _ _ _ _ hst h.2⟩
 |fuel+1,d,F,H,a,w,h,hst=>⟨fun q=>j _ _ _ _ hst (h.1 q),fun i p=>by
   have h1:=h.2 i p;unfold Go.wpOp;split
   ·rename_i hn;obtain⟨_,o,ho,_⟩:=mem_ready.1 p;rw[hn]at ho;cases ho
   ·rename_i o ho;have h1:=h1 o ho;have e:o∈ops.toList:=by rw[D2E];exact Array.mem_of_getElem? ho
    rw[if_pos (by simp[Region.wanted,h1.1])];exact .inl (opSem.wp ((A6k (m o e) h1 hst).mono fun v w' hv=>by
     obtain⟨r,H',g,hk⟩:=hv;exact A6l m j fuel _ _ _ _ _ hk g))⟩
def C3M(P:Program)(K:Env→Heap→Prop)(ops:Array Oper)(E:Env)(H:Heap):Prop:=
 C3L P ops (fun F H=>∃E,(∀t,E.get t=F t)∧K E H) ops.size (Array.replicate ops.size false) E.get H
theorem B4w{N:Nat}{w0:World}{H0:Heap}{id:Nat}{K:Env→Heap→Prop}{Q:Exit→Act→World→Prop}{a:Act}{w:World}{E:Env}(hm:P.follows .mixedOrders=true)
  (g: ∀o∈ops.toList,∀t,o.dst=some t→t<N)
  (j: ∀E H a w,a.tmps.size=N→a.defers= []→(∀i,R w H (E.get i) (a.eval (.tmp i)))→Sat H w→Ext H0 w0 w→From w0 H0 H→K E H→Q .normal a w)
  (h1:a.tmps.size=N) (m:a.defers= []) (p: ∀i,R w H (E.get i) (a.eval (.tmp i))) (q:Sat H w) (h5:Ext H0 w0 w) (e:From w0 H0 H)
  (h:C3M P K ops E H):(Code.region id ops true).wp P Q a w:=by
 have he:Ext H w {w with drawn:=w.drawn+1}:=Ext.drewN H w 1;have d:=q.same (w':={w with drawn:=w.drawn+1}) rfl he;refine wp_region_any hm ?_;refine A6l (P:=P) (ops:=ops) (N:=N) (w0:=w0) (H0:=H0) (K:=fun F H=>∃E,(∀t,E.get t=F t)∧K E H) g (fun F H a w hst hk=>?_) ops.size _ E.get H a _ ?_ ?_
 ·obtain⟨E,r,hk⟩:=hk;exact j E H a w hst.size hst.defers (fun i=>by rw[r];exact hst.env i) hst.sat hst.ext hst.frm hk
 ·exact h
 ·exact⟨h1,m,fun i=>(p i).mono he (D24 _ _),d,h5.trans e he,e⟩
end
end
inductive AX where
 |normal
 |exit (id:Nat)
 |ret
def wpOps(P:Program)(gs:List (Option Nat))(K:Env→Heap→Prop):List Oper→Env→Heap→Prop
 | [],E,H=>K E H
 |o::l,E,H=>match o.guard with
  |none=>D1 P E.ev H (fun d H'=>wpOps P gs K l (E.put o.dst d) H') o.op
  |some (j,want)=>A18 E (I1 gs j) want (fun E=>D1 P E.ev H (fun d H'=>wpOps P gs K l (E.put o.dst d) H') o.op) (fun E=>wpOps P gs K l (E.put o.dst (.tuple [])) H)
structure St(N:Nat)(w0:World)(H0:Heap)(E:Env)(H:Heap)(a:Act)(w:World):Prop where
 size:a.tmps.size=N
 defers:a.defers= []
 env: ∀i,R w H (E.get i) (a.eval (.tmp i))
 sat:Sat H w
 ext:Ext H0 w0 w
 frm:From w0 H0 H
def A1b(E0:Env)(H0:Heap)(E:Env)(H:Heap):Prop:=∀(N:Nat) (w0:World) (Hz:Heap) (a:Act) (w:World),St N w0 Hz E H a w→St N w0 Hz E0 H0 a w
def B3c(body:(Env→Heap→Prop)→Env→Heap→Prop)(E:Env)(H:Heap):Prop:=
 ∃(I:Nat→Env→Heap→Prop),(∃n E0 H0,A1b E0 H0 E H∧I n E0 H0)∧∀n E H,I n E H→body (fun E' H'=>∃m E0 H0,m<n∧A1b E0 H0 E' H'∧I m E0 H0) E H
def Env.fix(E:Env)(c:Operand)(b:Bool):Env:=match c with
 | .tmp t=>(t,.bool b)::E
 |_=>E
inductive Rc where
 |rd (sx:Bool)
 |par
 |ord (perm:List Nat)
 |rg
 |wk
 |any
def A0r(id:Nat):List (Nat×Rc)→Option Rc
 | []=>none
 |(i,sx)::Z=>if id=i then some sx else A0r id Z
def A81(P:Program)(sx:Bool)(bl:List Nat)(K:Env→Heap→Prop):List Oper→Env→Heap→Prop
 | [],E,H=>K E H
 |o::l,E,H=>o.guard=none∧B59 P sx bl E.ev H (fun d H'=>A81 P sx bl K l (E.put o.dst d) H') o.op
def Z7(P:Program)(bl:List Nat)(gs:List (Option Nat))(K:Env→Heap→Prop):List Oper→Env→Heap→Prop
 | [],E,H=>K E H
 |o::l,E,H=>match o.guard with
  |none=>A6V P bl E.ev H (fun d H'=>Z7 P bl gs K l (E.put o.dst d) H') o.op
  |some (j,want)=>A18 E (I1 gs j) want (fun E=>A6V P bl E.ev H (fun d H'=>Z7 P bl gs K l (E.put o.dst d) H') o.op) (fun E=>Z7 P bl gs K l (E.put o.dst (.tuple [])) H)
def wp(P:Program)(Z:List (Nat×Rc)):Code→(AX→Env→Heap→Prop)→Env→Heap→Prop
 | .skip,Q,E,H=>Q .normal E H
 | .region id ops _,Q,E,H=>match A0r id Z with
  |none=>wpOps P (ops.toList.map (·.dst)) (Q .normal) ops.toList E H
  |some (.rd sx)=>∃bl,(∀k∈bl,H k≠none)∧A81 P sx bl (Q .normal) ops.toList E H
  |some .par=>∃(cs:Nat→CR) (bs:Nat→Bl),B4q bs 0 ops.toList∧wpP P (ops.toList.map (·.dst)) cs bs (Q .normal) 0 ops.toList E H
  |some (.ord perm)=>∃bl:List Nat,wpG P bl (Q .normal) (perm.map (A2A ops.toList)) E H
  |some .rg=>∃bl,(∀k∈bl,H k≠none)∧Z7 P bl (ops.toList.map (·.dst)) (Q .normal) ops.toList E H
  |some .wk=>∃E0 H0,A1b E0 H0 E H∧wpOps P (ops.toList.map (·.dst)) (Q .normal) ops.toList E0 H0
  |some .any=>C3M P (Q .normal) ops E H
 | .seq a b,Q,E,H=>wp P Z a (fun x E H=>match x with| .normal=>wp P Z b Q E H| .exit i=>Q (.exit i) E H| .ret=>Q .ret E H) E H
 | .cond c x y,Q,E,H=>∃b,E.ev c= .bool b∧(b=true→wp P Z x Q (E.fix c true) H)∧(b=false→wp P Z y Q (E.fix c false) H)
 | .block id c,Q,E,H=>wp P Z c (fun x E H=>match x with| .normal=>Q .normal E H| .exit i=>if i=id then Q .normal E H else Q (.exit i) E H| .ret=>Q .ret E H) E H
 | .loop c,Q,E,H=>B3c (fun K=>wp P Z c fun x E H=>match x with| .normal=>K E H| .exit i=>Q (.exit i) E H| .ret=>Q .ret E H) E H
 | .exit id,Q,E,H=>Q (.exit id) E H
 | .ret,Q,E,H=>Q .ret E H
 | .scope c,Q,E,H=>wp P Z c Q E H
 | .label _,Q,E,H=>Q .normal E H
 |_,_,_,_=>False
def O4(P:Program)(Z:List (Nat×Rc))(N:Nat):Code→Bool
 | .region id ops d=>(ops.all fun o=>match o.dst with|some t=>decide (t<N)|none=>true)&&(match A0r id Z with|none=> !d||A4h P none ops|some (.rd sx)=> !d||A4h P (some sx) ops|some .par=>d&&B3b P ops|some (.ord perm)=>d&&B6O P ops perm|some .rg=> !d||A4h P (some true) ops|some .wk=> !d||A4h P none ops|some .any=>d)
 | .seq a b=>O4 P Z N a&&O4 P Z N b
 | .cond _ x y=>O4 P Z N x&&O4 P Z N y
 | .block _ c=>O4 P Z N c
 | .loop c=>O4 P Z N c
 | .scope c=>O4 P Z N c
 |_=>true
section
variable {P:Program} {Z:List (Nat×Rc)} {N:Nat} {w0:World} {H0:Heap}
theorem St.ev{E:Env}{H:Heap}{a:Act}{w:World}(h:St N w0 H0 E H a w)(x:Operand):R w H (E.ev x) (a.eval x):=by
 cases x with
 |tmp t=>exact h.env t
 |const v=>exact A2b w H v
 |global g=>exact .glob g
 |func f=>exact .fn _ _ _ _ _ rfl rfl (by simp) (by simp)
theorem St.put{E:Env}{H H':Heap}{a:Act}{w w':World}(h:St N w0 H0 E H a w){dst:Option Tmp}(j: ∀t,dst=some t→t<N){d:D}{v:Value}(hv:R w' H' d v)(hs:Sat H' w')(he:Ext H w w')(g:From w H H'):
  St N w0 H0 (E.put dst d) H' (a.put dst v) w':=by
 refine⟨?_,?_,fun i=>?_,hs,h.ext.trans h.frm he,h.frm.trans h.ext.size g⟩
 ·cases dst<;>simp[Act.put,h.size]
 ·cases dst<;>exact h.defers
 ·cases dst with
  |none=>exact(h.env i).mono he g
  |some t=>
   have m:=j t rfl;simp only[Env.put,Env.get];by_cases e:t=i
   ·subst e;rw[if_pos rfl];have:(a.put (some t) v).eval (.tmp t)=v:=by
     have o:t<a.tmps.size:=by rw[h.size];exact m
     simp[Act.eval,Act.put,o]
    rw[this];exact hv
   ·rw[if_neg e];have:(a.put (some t) v).eval (.tmp i)=a.eval (.tmp i):=by
     simp[Act.eval,Act.put,D2D e]
    rw[this];exact(h.env i).mono he g
theorem St.know{E:Env}{H:Heap}{a:Act}{w:World}(h:St N w0 H0 E H a w){s:Nat}{d:D}(g:E.get s=d):St N w0 H0 ((s,d)::E) H a w:=by
 refine⟨h.size,h.defers,fun i=>?_,h.sat,h.ext,h.frm⟩;simp only[Env.get];by_cases e:s=i
 ·subst e;rw[if_pos rfl,←g];exact h.env s
 ·rw[if_neg e];exact h.env i
theorem St.weak{E d:Env}{H H':Heap}{a:Act}{w:World}(h:St N w0 H0 E H a w)(hw:A1b d H' E H):St N w0 H0 d H' a w:=hw _ _ _ _ _ h
theorem A82{E e:Env}{H H':Heap}(o: ∀p∈e,E.get p.1=p.2)(hl:H'.Le H):A1b e H' E H:=by
 intro N w0 H0 a w h;refine⟨h.size,h.defers,fun i=>?_,h.sat.less hl,h.ext,h.frm.less hl⟩;have key: ∀(L:Env),(∀p∈L,E.get p.1=p.2)→R w H' (L.get i) (a.eval (.tmp i)):=by
  intro L
  induction L with
  |nil=>intro _;exact .undef _
  |cons p L q=>
   intro g;obtain⟨j,d⟩:=p;simp only[Env.get];by_cases m:j=i
   ·subst m;rw[if_pos rfl];have:=g (j,d) (by simp);simp only at this;rw[←this];exact(h.env j).less hl
   ·rw[if_neg m];exact q (fun p hp=>g p (by simp[hp]))
 exact key e o
theorem A0e{ops:Array Oper}{K:Env→Heap→Prop}: ∀(l:List Oper) (E:Env) (H:Heap) (a:Act) (w:World),(∀o∈l,∀t,o.dst=some t→t<N)→wpOps P (ops.toList.map (·.dst)) K l E H→St N w0 H0 E H a w→
  wpA P none ops (fun a' w'=>∃i H',St N w0 H0 i H' a' w'∧K i H') l a w:=by
 intro l
 induction l with
 |nil=>intro E H a w _ h hst;exact⟨E,H,hst,h⟩
 |cons o l G=>
  intro E H a w I h hst;have q: ∀o∈l,∀t,o.dst=some t→t<N:=fun o' y=>I o' (by simp[y]);have r:=I o (by simp);have run: ∀E,St N w0 H0 E H a w→D1 P E.ev H (fun d H'=>wpOps P (ops.toList.map (·.dst)) K l (E.put o.dst d) H') o.op→opSem P none o a w fun v w'=>wpA P none ops (fun a' w'=>∃i H',St N w0 H0 i H' a' w'∧K i H') l (a.put o.dst v) w':=by
   intro E hst h;refine(O2 hst.sat hst.ev h).mono fun v w' hp=>?_;obtain⟨d,H',h1,z,L,M,h5⟩:=hp;exact G _ _ _ _ q h5 (hst.put r h1 z L M)
  have skip: ∀E,St N w0 H0 E H a w→wpOps P (ops.toList.map (·.dst)) K l (E.put o.dst (.tuple [])) H→wpA P none ops (fun a' w'=>∃i H',St N w0 H0 i H' a' w'∧K i H') l (a.put o.dst undef) w:=
   fun E hst h=>G _ _ _ _ q h (hst.put r (.tuple [] #[] rfl (by simp)) hst.sat (D26 _ _) (D24 _ _))
  unfold wpOps at h;unfold wpA;split at h
  ·rename_i m;rw[if_pos (by simp[Region.wanted,m])];exact run E hst h
  ·rename_i j g m;have e:I1 (ops.toList.map (·.dst)) j=(ops[j]?).bind (·.dst):=by
    unfold I1;rw[D1w];cases J:ops[j]? with
    |none=>simp[J]
    |some o=>simp[J]
   unfold A18 at h;split at h
   ·rename_i hs;have p:yielded ops a.tmps j=none:=by
     unfold yielded;rw[e]at hs;rw[hs];rfl
    rw[if_neg (by simp[Region.wanted,m,p])];exact skip E hst h
   ·rename_i s hs;rcases h with⟨O,h⟩|⟨b,hb,h1,z⟩
    ·have hv:=hst.env s;rw[O]at hv;obtain⟨vs,hv,_⟩:=hv.tuple_inv;have p:yielded ops a.tmps j=none:=by
      unfold yielded;rw[e]at hs;rw[hs];simp only[D13];simp only[Act.eval]at hv;cases x:a.tmps[s]? with
      |none=>rfl
      |some u=>
       simp[x]at hv;subst hv;rfl
     rw[if_neg (by simp[Region.wanted,m,p])];exact skip E hst h
    have hv:=hst.env s;rw[hb]at hv;have hv:=hv.bool_inv;have p:yielded ops a.tmps j=some b:=by
     unfold yielded;rw[e]at hs;rw[hs];simp only[D13];simp only[Act.eval]at hv;cases x:a.tmps[s]? with
     |none=>
      simp[x]at hv;cases hv
     |some u=>
      simp[x]at hv;subst hv;rfl
    by_cases A:b=g
    ·subst A;rw[if_pos (by simp[Region.wanted,m,p])];exact run _ (hst.know hb) (h1 rfl)
    ·have C:b= !g:=by cases b<;>cases g<;>simp_all
     subst C;rw[if_neg (by simp[Region.wanted,m,p])];exact skip _ (hst.know hb) (z rfl)
theorem A3p{ops:Array Oper}{bl:List Nat}{K:Env→Heap→Prop}: ∀(l:List Oper) (E:Env) (H:Heap) (a:Act) (w:World),(∀o∈l,∀t,o.dst=some t→t<N)→(∀k∈bl,k<w.heap.size)→Z7 P bl (ops.toList.map (·.dst)) K l E H→St N w0 H0 E H a w→
  wpA P (some (true,bl)) ops (fun a' w'=>∃i H',St N w0 H0 i H' a' w'∧K i H') l a w:=by
 intro l
 induction l with
 |nil=>intro E H a w _ _ h hst;exact⟨E,H,hst,h⟩
 |cons o l I=>
  intro E H a w J m h hst;have r: ∀o∈l,∀t,o.dst=some t→t<N:=fun o' z=>J o' (by simp[z]);have x:=J o (by simp);have run: ∀E,St N w0 H0 E H a w→A6V P bl E.ev H (fun d H'=>Z7 P bl (ops.toList.map (·.dst)) K l (E.put o.dst d) H') o.op→opSem P (some (true,bl)) o a w fun v w'=>wpA P (some (true,bl)) ops (fun a' w'=>∃i H',St N w0 H0 i H' a' w'∧K i H') l (a.put o.dst v) w':=by
   intro E hst h;refine(B0c m hst.sat hst.ev h).mono fun v w' hp=>?_;obtain⟨d,H',h1,A,L,O,h5⟩:=hp;exact I _ _ _ _ r (fun k hk=>D2V (m k hk) L.size) h5 (hst.put x h1 A L O)
  have skip: ∀E,St N w0 H0 E H a w→Z7 P bl (ops.toList.map (·.dst)) K l (E.put o.dst (.tuple [])) H→wpA P (some (true,bl)) ops (fun a' w'=>∃i H',St N w0 H0 i H' a' w'∧K i H') l (a.put o.dst undef) w:=
   fun E hst h=>I _ _ _ _ r m h (hst.put x (.tuple [] #[] rfl (by simp)) hst.sat (D26 _ _) (D24 _ _))
  unfold Z7 at h;unfold wpA;split at h
  ·rename_i p;rw[if_pos (by simp[Region.wanted,p])];exact run E hst h
  ·rename_i j g p;have e:I1 (ops.toList.map (·.dst)) j=(ops[j]?).bind (·.dst):=by
    unfold I1;rw[D1w];cases M:ops[j]? with
    |none=>simp[M]
    |some o=>simp[M]
   unfold A18 at h;split at h
   ·rename_i hs;have q:yielded ops a.tmps j=none:=by
     unfold yielded;rw[e]at hs;rw[hs];rfl
    rw[if_neg (by simp[Region.wanted,p,q])];exact skip E hst h
   ·rename_i s hs;rcases h with⟨T,h⟩|⟨b,hb,h1,A⟩
    ·have hv:=hst.env s;rw[T]at hv;obtain⟨vs,hv,_⟩:=hv.tuple_inv;have q:yielded ops a.tmps j=none:=by
      unfold yielded;rw[e]at hs;rw[hs];simp only[D13];simp only[Act.eval]at hv;cases y:a.tmps[s]? with
      |none=>rfl
      |some u=>
       simp[y]at hv;subst hv;rfl
     rw[if_neg (by simp[Region.wanted,p,q])];exact skip E hst h
    have hv:=hst.env s;rw[hb]at hv;have hv:=hv.bool_inv;have q:yielded ops a.tmps j=some b:=by
     unfold yielded;rw[e]at hs;rw[hs];simp only[D13];simp only[Act.eval]at hv;cases y:a.tmps[s]? with
     |none=>
      simp[y]at hv;cases hv
     |some u=>
      simp[y]at hv;subst hv;rfl
    by_cases C:b=g
    ·subst C;rw[if_pos (by simp[Region.wanted,p,q])];exact run _ (hst.know hb) (h1 rfl)
    ·have G:b= !g:=by cases b<;>cases g<;>simp_all
     subst G;rw[if_neg (by simp[Region.wanted,p,q])];exact skip _ (hst.know hb) (A rfl)
theorem A3q{ops:Array Oper}{sx:Bool}{bl:List Nat}{K:Env→Heap→Prop}: ∀(l:List Oper) (E:Env) (H:Heap) (a:Act) (w:World),(∀o∈l,∀t,o.dst=some t→t<N)→(∀k∈bl,k<w.heap.size)→A81 P sx bl K l E H→St N w0 H0 E H a w→
  wpA P (some (sx,bl)) ops (fun a' w'=>∃i H',St N w0 H0 i H' a' w'∧K i H') l a w:=by
 intro l
 induction l with
 |nil=>intro E H a w _ _ h hst;exact⟨E,H,hst,h⟩
 |cons o l p=>
  intro E H a w j e h hst;obtain⟨q,h⟩:=h;unfold wpA;rw[if_pos (by simp[Region.wanted,q])];refine(A15 e hst.sat hst.ev h).mono fun v w' hp=>?_;obtain⟨d,H',h1,r,m,u,h5⟩:=hp;exact p _ _ _ _ (fun o' g=>j o' (by simp[g])) (fun k hk=>D2V (e k hk) m.size) h5 (hst.put (j o (by simp)) h1 r m u)
def lift(N:Nat)(w0:World)(H0:Heap)(Q:AX→Env→Heap→Prop):Exit→Act→World→Prop
 | .normal,a,w=>∃E H,St N w0 H0 E H a w∧Q .normal E H
 | .exit id,a,w=>∃E H,St N w0 H0 E H a w∧Q (.exit id) E H
 | .ret,a,w=>∃E H,St N w0 H0 E H a w∧Q .ret E H
 |_,_,_=>False
theorem B6R{c:Code}{Q:Exit→Act→World→Prop}(I:Nat→Act→World→Prop){n:Nat}{a:Act}{w:World}(p:I n a w)
  (g: ∀n a w,I n a w→c.wp P (Exit.then (fun a' w'=>∃m,m<n∧I m a' w') Q) a w):(Code.loop c).wp P Q a w:=by
 intro b k cs;have key: ∀n a w,I n a w→∃e a' w',Q e a' w'∧Arrives P (lone (b.at a (.code c:: .inLoop c::k)) cs w) b k cs e a' w':=by
  intro n
  induction n using Nat.strongRecOn with
  |_ n q=>
   intro a w r;obtain⟨e,a1,i,hq,d⟩:=g n a w r b (.inLoop c::k) cs;cases e with
   |normal=>
    obtain⟨m,hm,j⟩:=hq;obtain⟨e2,a2,u,o,h⟩:=q m hm a1 i j;exact⟨e2,a2,u,o,.of_steps (Steps.trans d (.one step_inLoop)) h⟩
   |exit id=>exact⟨_,a1,i,hq,.pass (x:=.inLoop c) rfl (fun _ _=>.inl (by simp)) d⟩
   |goto l=>exact⟨_,a1,i,hq,.pass (x:=.inLoop c) rfl (fun _ _=>.inl (by simp)) d⟩
   |ret=>exact⟨_,a1,i,hq,.pass (x:=.inLoop c) rfl (fun _ _=>.inl (by simp)) d⟩
   |panic y=>exact⟨_,a1,i,hq,.pass (x:=.inLoop c) rfl (fun _ _=>.inl (by simp)) d⟩
   |outgrown=>exact⟨_,a1,i,hq,.pass (x:=.inLoop c) rfl (fun _ _=>.inl (by simp)) d⟩
 obtain⟨e,a',w',hq,d⟩:=key n a w p;exact⟨e,a',w',hq,.of_steps (.one step_loop) d⟩
theorem A0K(hm:P.follows .mixedOrders=true): ∀(c:Code) (Q:AX→Env→Heap→Prop) (E:Env) (H:Heap) (a:Act) (w:World),O4 P Z N c=true→wp P Z c Q E H→St N w0 H0 E H a w→c.wp P (lift N w0 H0 Q) a w:=by
  intro c
  induction c with
  |skip=>intro Q E H a w _ h hst;exact Go.wp_skip ⟨E,H,hst,h⟩
  |region id ops d=>
    intro Q E H a w g h hst;simp only[O4,D1m]at g
    have u: ∀o∈ops.toList,∀t,o.dst=some t→t<N:=fun o ho t U=>by
      have:=Array.all_eq_true_iff_forall_mem.1 g.1 o (by simpa using ho);rw[U]at this;simpa using this
    have he:Ext H w {w with drawn:=w.drawn+1}:=Ext.drewN H w 1;have p:St N w0 H0 E H a {w with drawn:=w.drawn+1}:=⟨hst.size,hst.defers,fun i=>(hst.env i).mono he (D24 _ _),hst.sat.same rfl he,hst.ext.trans hst.frm he,hst.frm⟩
    unfold wp at h;cases hz:A0r id Z with
    |none=>
      rw[hz]at h g;cases d with
      |false=>exact A0E (fun a w h=>h) (A0e ops.toList E H a w u h hst)
      |true=>exact A3n (F:=none) hm (by simpa using g.2) (fun a w h=>h) (A0e ops.toList E H a _ u h p)
    |some rc=>
      rw[hz]at h g;cases rc with
      |par=>
        simp only[D1m]at g;obtain⟨_,z,A⟩:=g;subst z;obtain⟨cs,bs,a0,h⟩:=h;exact B6M hm A u (fun E H a w V W X Y k5 k6 hk=>⟨E,H,⟨V,W,X,Y,k5,k6⟩,hk⟩) hst.size hst.defers hst.env hst.sat hst.ext hst.frm a0 h
      |ord perm=>
        simp only[D1m]at g;obtain⟨_,z,A⟩:=g;subst z;obtain⟨bl,h⟩:=h;exact B6Q hm A u (fun E H a w V W X Y k5 k6 hk=>⟨E,H,⟨V,W,X,Y,k5,k6⟩,hk⟩) hst.size hst.defers hst.env hst.sat hst.ext hst.frm h
      |any=>
        obtain⟨_,z⟩:=g;subst z;exact B4w hm u (fun E H a w V W X Y k5 k6 hk=>⟨E,H,⟨V,W,X,Y,k5,k6⟩,hk⟩) hst.size hst.defers hst.env hst.sat hst.ext hst.frm h
      |wk=>
        obtain⟨E0,Hh,G,h⟩:=h
        (cases d with
        |false=>exact A0E (fun a w h=>h) (A0e ops.toList E0 Hh a w u h (hst.weak G))
        |true=>exact A3n (F:=none) hm (by simpa using g.2) (fun a w h=>h) (A0e ops.toList E0 Hh a _ u h (p.weak G)))
      |rg=>
      obtain⟨bl,L,h⟩:=h
      have C: ∀w:World,Sat H w→∀k∈bl,k<w.heap.size:=fun w hs k hk=>by
        cases ho:H k with
        |none=>exact absurd ho (L k hk)
        |some o=>exact hs.lt ho
      (cases d with
      |false=>exact A0E (fun a w h=>h) (A3p (bl:=bl) ops.toList E H a w u (C _ hst.sat) h hst)
      |true=>exact A3n (F:=some (true,bl)) hm (by simpa using g.2) (fun a w h=>h) (A3p (bl:=bl) ops.toList E H a _ u (C _ p.sat) h p))
      |rd sx=>
      obtain⟨bl,L,h⟩:=h
      have C: ∀w:World,Sat H w→∀k∈bl,k<w.heap.size:=fun w hs k hk=>by
        cases ho:H k with
        |none=>exact absurd ho (L k hk)
        |some o=>exact hs.lt ho
      cases d with
      |false=>exact A0E (fun a w h=>h) (A3q (sx:=sx) (bl:=bl) ops.toList E H a w u (C _ hst.sat) h hst)
      |true=>exact A3n (F:=some (sx,bl)) hm (by simpa using g.2) (fun a w h=>h) (A3q (sx:=sx) (bl:=bl) ops.toList E H a _ u (C _ p.sat) h p)
  |seq x y M O=>
    intro Q E H a w g h hst;simp only[O4,D1m]at g;refine Go.wp_seq (Go.wp_mono (M _ E H a w g.1 h hst) fun e a' w' he=>?_);cases e with
    |normal=>obtain⟨r,H',j,q⟩:=he;exact O Q r H' a' w' g.2 q j
    |exit id=>obtain⟨r,H',j,q⟩:=he;exact⟨r,H',j,q⟩
    |ret=>obtain⟨r,H',j,q⟩:=he;exact⟨r,H',j,q⟩
    |_=>exact he.elim
  |cond c x y M O=>
    intro Q E H a w g h hst;simp only[O4,D1m]at g;obtain⟨b,hb,h1,h2⟩:=h;have hv:=hst.ev c;rw[hb]at hv
    have J: ∀b',E.ev c= .bool b'→St N w0 H0 (E.fix c b') H a w:=fun b' a4=>by
      cases c with
      |tmp t=>exact hst.know a4
      |_=>exact hst
    refine Go.wp_cond_split hv.bool_inv (fun U=>?_) (fun U=>?_)
    · subst U;exact M Q _ H a w g.1 (h1 rfl) (J _ hb)
    · subst U;exact O Q _ H a w g.2 (h2 rfl) (J _ hb)
  |block id c ih=>
    intro Q E H a w g h hst;simp only[O4]at g;refine Go.wp_block (Go.wp_mono (ih _ E H a w g h hst) fun e a' w' he=>?_);cases e with
    |normal=>obtain⟨r,H',j,q⟩:=he;exact⟨r,H',j,q⟩
    |exit i=>
      obtain⟨r,H',j,q⟩:=he;simp only[Exit.inBlock];by_cases hi:i=id
      · rw[if_pos hi];simp only[hi,if_true]at q;exact⟨r,H',j,q⟩
      · rw[if_neg hi];simp only[hi,if_false]at q;exact⟨r,H',j,q⟩
    |ret=>obtain⟨r,H',j,q⟩:=he;exact⟨r,H',j,q⟩
    |_=>exact he.elim
  |loop c ih=>
    intro Q E H a w g h hst;simp only[O4]at g;obtain⟨I,⟨n,E0,Hh,hw,hI⟩,T⟩:=h;refine B6R (fun n a w=>∃E H,St N w0 H0 E H a w∧I n E H) (n:=n) ⟨E0,Hh,hst.weak hw,hI⟩ fun n a w a5=>?_;obtain⟨E1,H1,p,a6⟩:=a5;refine Go.wp_mono (ih _ E1 H1 a w g (T n E1 H1 a6) p) fun e a' w' he=>?_;cases e with
    |normal=>
      obtain⟨r,H',j,m,E2,H2,a9,G,b0⟩:=he;exact⟨m,a9,E2,H2,j.weak G,b0⟩
    |exit id=>obtain⟨r,H',j,q⟩:=he;exact⟨r,H',j,q⟩
    |ret=>obtain⟨r,H',j,q⟩:=he;exact⟨r,H',j,q⟩
    |_=>exact he.elim
  |exit id=>intro Q E H a w _ h hst;exact Go.wp_exit ⟨E,H,hst,h⟩
  |ret=>intro Q E H a w _ h hst;exact Go.wp_ret ⟨E,H,hst,h⟩
  |scope c ih=>
    intro Q E H a w g h hst;simp only[O4]at g;refine Go.wp_scope_straight (Go.wp_mono (ih Q E H a w g h hst) fun e a' w' he=>?_);cases e with
    |goto l=>exact he.elim
    |_=>exact he
  |label l=>intro Q E H a w _ h hst;exact Go.wp_label ⟨E,H,hst,h⟩
  |_=>intro Q E H a w _ h _;exact h.elim
end
def A0f(P:Program)(E:Env)(H:Heap):ResultVar→Option D
 | .tmp t=>some (E.get t)
 | .cell a t=>A0H P t (E.get a) H
def A3J(P:Program)(rs:List ResultVar)(E:Env)(H:Heap):Option D:=(rs.mapM (A0f P E H)).map fun
 | [d]=>d
 |ds=>.tuple ds
def Shift(H:Heap)(d:D)(H':Heap)(d':D):Prop:=∀w v,R w H d v→Sat H w→R w H' d' v∧Sat H' w∧∀k,H.held k=false→H'.held k=false
theorem Shift.less{H H':Heap}(h:H'.Le H)(d:D):Shift H d H' d:=fun _ _ hr hs=>⟨hr.less h,hs.less h,fun _ hn=>h.held hn⟩
theorem Shift.trans{H H' j:Heap}{d d' m:D}(h:Shift H d H' d')(k:Shift H' d' j m):Shift H d j m:=fun w v hr hs=>
 let ⟨a,b,c⟩:=h w v hr hs;let ⟨e,f,g⟩:=k w v a b;⟨e,f,fun i o=>g i (c i o)⟩
def A83(P:Program)(rs:List ResultVar)(Q:D→Heap→Prop):AX→Env→Heap→Prop
 | .exit _,_,_=>False
 |_,E,H=>∃r,A3J P rs E H=some r∧∃H' r',Shift H r H' r'∧Q r' H'
def W9:Nat→List D→Env
 |_,[]=>[]
 |i,d::ds=>(i,d)::W9 (i+1) ds
section
variable {P:Program}
theorem A0L: ∀(ds:List D) (k i:Nat),(W9 k ds).get i=if k≤i then(ds[i-k]?).getD .undef else .undef
 | [],k,i=>by simp[W9,Env.get]
 |d::ds,k,i=>by
  simp only[W9,Env.get];by_cases e:k=i
  ·subst e;rw[if_pos rfl,if_pos (D1t _)];simp
  ·rw[if_neg e,A0L ds];by_cases h:k+1≤i
   ·rw[if_pos h,if_pos (by omega),show i-k=(i-(k+1))+1 by omega,D15]
   ·rw[if_neg h,if_neg (by omega)]
theorem A2i{N:Nat}{w0:World}{H0:Heap}{E:Env}{H:Heap}{a:Act}{w:World}(hst:St N w0 H0 E H a w){fn:Func}{r:D}(h:A3J P fn.results.toList E H=some r):
  ∃v,(results fn a.tmps).run P w= .ok v w∧R w H r v:=by
 unfold A3J at h;obtain⟨ds,G,hr⟩:=D1i.1 h;have key: ∀(p:List ResultVar) (ds:List D),p.mapM (A0f P E H)=some ds→∃vs:List Value,(p.mapM fun(x:ResultVar)=>match x with| .tmp t=>(pure (a.tmps.getD t undef):Sem Value)| .cell b t=>do loadVar t (←asAddr (a.tmps.getD b undef))).run P w= .ok vs w∧ds.length=vs.length∧∀(i:Nat) d,ds[i]? =some d→R w H d (vs.getD i Go.undef):=by
  intro p
  induction p with
  |nil=>intro ds h;simp at h;subst h;exact⟨[],rfl,rfl,by simp⟩
  |cons x p T=>
   intro ds h;simp only[List.mapM_cons,Option.bind_eq_bind,D1l,Option.pure_def]at h;obtain⟨U,C,V,h1,W⟩:=h;cases W;obtain⟨vs,g,hl,e⟩:=T V h1;have one: ∃v,(match x with| .tmp t=>(pure (a.tmps.getD t undef):Sem Value)| .cell b t=>do loadVar t (←asAddr (a.tmps.getD b undef))).run P w= .ok v w∧R w H U v:=by
    cases x with
    |tmp t=>
     simp only[A0f,D2B]at C;subst C;exact⟨_,rfl,hst.env t⟩
    |cell b t=>
     simp only[A0f]at C;obtain⟨u,j,I⟩:=A6W (P:=P) hst.sat C (hst.env b);refine⟨u,?_,I⟩;unfold Instr.loadAt at j;simp only[Act.eval]at j;have J: ∀(z:Value) (A:Addr) (w:World),(Instr.sureAddr z).run P w= .ok A w→(asAddr z).run P w= .ok A w:=by
      intro z A w L;cases z with
      |pointer o=>
       cases o with
       |none=>exact absurd L (by simp[Instr.sureAddr,stuck])
       |some y=>exact L
      |_=>exact absurd L (by simp[Instr.sureAddr,stuck])
     rw[Sem.run_bind]at j⊢;cases hs:(Instr.sureAddr (a.tmps.getD b undef)).run P w with
     |ok A w'=>
      have M:w'=w:=by
       unfold Instr.sureAddr at hs;split at hs
       ·cases hs;rfl
       ·cases hs
      subst M;rw[hs]at j;rw[J _ _ _ hs];exact j
     |halt x w'=>rw[hs]at j;cases j
   obtain⟨v,hv,O⟩:=one;refine⟨v::vs,?_,by simp[hl],fun i d m=>?_⟩
   ·rw[List.mapM_cons,Sem.run_bind,hv];simp only[Result.andThen_ok];rw[Sem.run_bind,g];rfl
   ·cases i with
    |zero=>simp at m;subst m;simpa using O
    |succ i=>simp at m;simpa using e i d m
 obtain⟨vs,g,hl,e⟩:=key _ _ G;have q:(results fn a.tmps).run P w= .ok (if h:vs.toArray.size=1 then vs.toArray[0]else .tuple vs.toArray) w:=by
  unfold results;rw[Sem.run_bind,Array.mapM_eq_mapM_toList];simp only[Functor.map];rw[Sem.run_bind'];exact congrArg (fun r:Result (List Value)=>(r.andThen fun a w'=>Sem.run P ((Sem.pure ∘ List.toArray) a) w').andThen fun a w'=>Sem.run P (pure (if h:a.size=1 then a[0]else Value.tuple a)) w') g
 refine⟨_,q,?_⟩
 match ds,vs,hl,hr,e with
 | [d],[v],_,hr,e=>simp only at hr;subst hr;simpa using e 0 d rfl
 | [],[],_,hr,e=>simp only at hr;subst hr;exact .tuple _ _ rfl (by simp)
 |d1::X::ds,v1::v2::vs,hl,hr,e=>
  simp only at hr;subst hr;rw[dif_neg (by simp)];exact .tuple _ _ (by simpa using hl) (fun i d m=>by simpa using e i d m)
theorem A84{f:Nat}(Z:List (Nat×Rc)){fn:Func}{c:Code}{args:List D}{H:Heap}{Q:D→Heap→Prop}(hm:P.follows .mixedOrders=true)(C:P.funcs[f]? =some fn)(hb:fn.body=some c)(o:A13 P f=true)(hn:args.length≤fn.ntmps)
  (p:O4 P Z fn.ntmps c=true) (h:wp P Z c (A83 P fn.results.toList Q) (W9 0 args) H):ACalls P f args H Q:=by
 refine⟨o,fun w vs hl G hs=>calls_of_wp C hb ?_⟩;have hst:St fn.ntmps w H (W9 0 args) H {tmps:=vs++Array.replicate (fn.ntmps-vs.size) undef,defers:=[]} w:=by
  refine⟨by simp;omega,rfl,fun i=>?_,hs,D26 _ _,D24 _ _⟩;rw[A0L,if_pos (D1u _),Nat.sub_zero];cases z:args[i]? with
  |none=>exact .undef _
  |some d=>
   have I:=(D1j.1 z).1;have:({tmps:=vs++Array.replicate (fn.ntmps-vs.size) undef,defers:=[]}:Act).eval (.tmp i)=vs.getD i undef:=by
    simp only[Act.eval];exact G2 (by omega)
   rw[this];exact G i d z
 have fin: ∀(x:AX) (E:Env) (H':Heap) (a:Act) (w':World),(x= .normal∨x= .ret)→St fn.ntmps w H E H' a w'→A83 P fn.results.toList Q x E H'→
   a.defers= []∧∃v,(results fn a.tmps).run P w'= .ok v w'∧∃A,Ending.returned v= .returned A∧Post H w Q A w':=by
  intro x E H' a w' hx g hq;have q: ∃r,A3J P fn.results.toList E H'=some r∧∃j m,Shift H' r j m∧Q m j:=by rcases hx with rfl|rfl<;>exact hq
  obtain⟨r,hr,j,m,u,J⟩:=q;obtain⟨v,hv,y⟩:=A2i (P:=P) g hr;obtain⟨L,M,O⟩:=u _ _ y g.sat;exact⟨g.defers,v,hv,v,rfl,m,j,L,M,g.ext,fun k hk hn=>O k (g.frm k hk hn),J⟩
 refine Go.wp_mono (A0K hm c _ _ _ _ _ p h hst) fun e a w' he=>?_;cases e with
 |normal=>obtain⟨E,H',g,hq⟩:=he;exact fin .normal E H' a w' (.inl rfl) g hq
 |ret=>obtain⟨E,H',g,hq⟩:=he;exact fin .ret E H' a w' (.inr rfl) g hq
 |exit id=>obtain⟨E,H',g,hq⟩:=he;exact hq.elim
 |_=>exact he.elim
theorem A8{f:Nat}(Z:List (Nat×Rc)){fn:Func}{c:Code}{args:List D}{H:Heap}{Q:D→Heap→Prop}(hm:P.follows .mixedOrders=true)(g:P.funcs[f]? =some fn)(hb:fn.body=some c)
  (h:wp P Z c (A83 P fn.results.toList Q) (W9 0 args) H) (d:A13 P f=true:=by kernel_rfl) (hn:args.length≤fn.ntmps:=by exact D1a (by kernel_rfl)) (e:O4 P Z fn.ntmps c=true:=by kernel_rfl):ACalls P f args H Q:=A84 Z hm g hb d hn e h
theorem ACalls.shift{f:Nat}{args args':List D}{H H':Heap}{Q:D→Heap→Prop}(hs: ∀w (vs:Array Value),args.length=vs.size→(∀(i:Nat) d,args[i]? =some d→R w H d (vs.getD i Go.undef))→Sat H w→
  args'.length=vs.size∧(∀(i:Nat) d,args'[i]? =some d→R w H' d (vs.getD i Go.undef))∧Sat H' w∧∀k,H.held k=false→H'.held k=false) (h:ACalls P f args' H' Q):ACalls P f args H Q:=by
 refine⟨h.1,fun w vs h1 m o=>?_⟩;obtain⟨p,q,r,j⟩:=hs w vs h1 m o;refine(h.2 w vs p q r).mono fun e w' ⟨v,he,d,u,x,y,g,z,A⟩=>⟨v,he,d,u,x,y,⟨g.os,g.tape,g.output,g.size,fun k hk hn=>g.block k hk (j k hn),g.shape⟩,fun k hk hn=>z k hk (j k hn),A⟩
theorem E5(H:Heap)(b:Nat):(H.del b).Le H:=fun k o h=>by
 unfold Heap.del at h;split at h
 ·cases h
 ·exact h
theorem A6m{w:World}{H:Heap}{b sz lo n:Nat}{es:List (List D)}{v:Value}(hr:R w H (.vec b sz lo n) v)(hs:Sat H w)(hb:H b=some (.vec sz es))(hn:lo+n≤es.length):
  R w (H.del b) (.sl sz ((es.drop lo).take n)) v:=by
 have p:=hs.lt hb;obtain⟨c,T,x,y,h1,G,I,o⟩:=A2c (hs b _ hb);cases hr with
 |vec0 b sz lo off=>rw[List.take_zero];exact .sl0 _ _ _
 |vec b sz lo n cap T m z A hsz q=>
 have hlen:((es.drop lo).take n).length=n:=by simp;omega
 have g: ∀(i:Nat) (e:List D),((es.drop lo).take n)[i]? =some e→i<n∧es[lo+i]? =some e:=fun i e he=>by
  have h:=(D1j.1 he).1;rw[hlen]at h;rw[List.getElem?_take_of_lt h,List.getElem?_drop]at he;exact⟨h,he⟩
 have u:=R.sl (w:=w) (H:=H.del b) sz ((es.drop lo).take n) b (lo*sz) cap (fun i j=>c.getD ((lo+i)*sz+j) Go.undef) p (I0 (by simp[Heap.del]))
  (fun i e he=>o.each _ _ (g i e he).2) (by rw[hlen];exact q) (fun i j h J=>?_) (fun i e j d he r=>o.one _ _ _ _ (g i e he).2 r)
  (fun i e j d he r=>(o.rel _ _ _ _ (g i e he).2 r).less (E5 H b))
 ·rw[hlen]at u;exact u
 ·rw[hlen]at h;have e1:lo*sz+i*sz+j=(lo+i)*sz+j:=by rw[Nat.add_mul]
  rw[e1,U1 h1];have h5:(lo+i+1)*sz≤es.length*sz:=D2F _ (by omega);rw[Nat.add_mul (lo+i),Nat.one_mul]at h5;have L:=o.le;have C:(lo+i)*sz+j<c.size:=by omega
  simp[C]
inductive Fz(b sz:Nat)(es:List (List D)):D→D→Prop
 |same (d:D):Fz b sz es d d
 |nil (sz':Nat):Fz b sz es .nilsl (.sl sz' [])
 |vec (lo n:Nat) (h:lo+n≤es.length):Fz b sz es (.vec b sz lo n) (.sl sz ((es.drop lo).take n))
 |all:Fz b sz es (.vec b sz 0 es.length) (.sl sz es)
 |tuple (ds ds':List D) (hl:ds.length=ds'.length) (h: ∀(i:Nat) d d',ds[i]? =some d→ds'[i]? =some d'→Fz b sz es d d'):Fz b sz es (.tuple ds) (.tuple ds')
theorem Fz.R{w:World}{H:Heap}{b sz:Nat}{es:List (List D)}(hs:Sat H w)(hb:H b=some (.vec sz es)){d d':D}(h:Fz b sz es d d'): ∀{v:Value},R w H d v→R w (H.del b) d' v:=by
 induction h with
 |same d=>exact fun hr=>hr.less (E5 H b)
 |nil sz'=>intro v hr;cases hr;exact .sl0 _ _ _
 |vec lo n h=>exact fun hr=>A6m hr hs hb h
 |all=>intro v hr;have:=A6m hr hs hb (by omega);rwa [List.drop_zero,List.take_length]at this
 |tuple ds ds' hl h m=>
  intro v hr;obtain⟨vs,rfl,o,g⟩:=hr.tuple_inv;refine .tuple _ _ (by omega) fun i d' e=>?_;have p:=(D1j.1 e).1;have j:ds[i]? =some (ds[i]'(by omega)):=D1q _;exact m i _ _ j e (g i _ j)
theorem Fz.one{b sz:Nat}{es:List (List D)}{d d':D}(h:Fz b sz es d d')(h1:d.one=true):d'.one=true:=by
 cases h with
 |same=>exact h1
 |nil=>rfl
 |vec=>rfl
 |all=>rfl
 |tuple=>cases h1
inductive OFz(b sz:Nat)(es:List (List D)):Obj→Obj→Prop
 |same (o:Obj):OFz b sz es o o
 |box (cs cs':List D) (Z:Option TypeId) (hl:cs.length=cs'.length) (h: ∀(i:Nat) d d',cs[i]? =some d→cs'[i]? =some d'→Fz b sz es d d'):OFz b sz es (.box cs Z) (.box cs' Z)
 |vec (s:Nat) (xs xs':List (List D)) (hl:xs.length=xs'.length) (h: ∀(i:Nat) x x',xs[i]? =some x→xs'[i]? =some x'→x.length=x'.length∧∀(j:Nat) d d',x[j]? =some d→x'[j]? =some d'→Fz b sz es d d'):OFz b sz es (.vec s xs) (.vec s xs')
theorem A5Q{E A:Env}{H H':Heap}{b sz:Nat}{es:List (List D)}(hb:H b=some (.vec sz es))(hE: ∀p∈A,Fz b sz es (E.get p.1) p.2)
  (C: ∀k o',H' k=some o'→k≠b∧∃o,H k=some o∧OFz b sz es o o'):A1b A H' E H:=by
 intro N w0 Hz a w hst;have hs:=hst.sat;have e: ∀k,H.held k=false→H'.held k=false:=fun k hk=>by
  cases ho:H' k with
  |none=>exact I0 ho
  |some o'=>
   obtain⟨_,o,h1,G⟩:=C k o' ho;rw[J6 h1]at hk;rw[J6 ho];cases G<;>exact hk
 have I: ∀{d d':D} {v:Value},Fz b sz es d d'→R w H d v→R w H' d' v:=fun u hr=>(u.R hs hb hr).mono (D26 _ _) fun k _ hk=>by
  by_cases x:k=b
  ·subst x;cases ho:H' k with
   |none=>exact I0 ho
   |some o'=>exact absurd rfl (C k o' ho).1
  ·refine e k ?_;rw[←A0b (H:=H) (H':=H.del b) (k:=k) (by unfold Heap.del;rw[if_neg x])];exact hk
 refine⟨hst.size,hst.defers,fun i=>?_,fun k o' ho=>?_,hst.ext,fun k hk hn=>e k (hst.frm k hk hn)⟩
 ·have key: ∀(L:Env),(∀p∈L,Fz b sz es (E.get p.1) p.2)→R w H' (L.get i) (a.eval (.tmp i)):=by
   intro L
   induction L with
   |nil=>intro _;exact .undef _
   |cons p L ih=>
    intro W;obtain⟨j,d⟩:=p;simp only[Env.get];by_cases y:j=i
    ·subst y;rw[if_pos rfl];exact I (W (j,d) (by simp)) (hst.env j)
    ·rw[if_neg y];exact ih (fun p hp=>W p (by simp[hp]))
  exact key A hE
 ·obtain⟨_,o,h1,G⟩:=C k o' ho;have q:=hs k o h1;cases G with
  |same=>exact q.mono (D26 H w) (fun k _ hk=>e k hk) rfl
  |box cs cs' Z hl u=>
   obtain⟨c,T,lo,J,M,O,X,z,U⟩:=q;refine⟨c,T,lo,J,M,O,by omega,fun j d' g=>?_,U⟩;have y:=(D1j.1 g).1;have r:cs[j]? =some (cs[j]'(by omega)):=D1q _;have m:=u j _ _ r g;exact⟨m.one (z j _ r).1,I m (z j _ r).2⟩
  |vec s xs xs' hl u=>
   obtain⟨c,T,lo,J,M,O,X,z,U,Y⟩:=q;refine⟨c,T,lo,J,M,O,X,by rw[←hl];exact z,fun i x' h=>?_,fun i x' j d' h g=>?_⟩
   ·have V:=(D1j.1 h).1;have hx:xs[i]? =some (xs[i]'(by omega)):=D1q _;rw[←(u i _ _ hx h).1];exact U i _ hx
   ·have V:=(D1j.1 h).1;have hx:xs[i]? =some (xs[i]'(by omega)):=D1q _;obtain⟨hlen,m⟩:=u i _ _ hx h;have y:=(D1j.1 g).1;have r:(xs[i]'(by omega))[j]? =some ((xs[i]'(by omega))[j]'(by omega)):=D1q _;have hz:=m j _ _ r g;exact⟨hz.one (Y i _ j _ hx r).1,I hz (Y i _ j _ hx r).2⟩
theorem Shift.freeze{H:Heap}{b sz:Nat}{es:List (List D)}(hb:H b=some (.vec sz es)){d d':D}(h:Fz b sz es d d'):Shift H d (H.del b) d':=fun w v hr hs=>
 ⟨h.R hs hb hr,hs.less (E5 H b),fun _ hn=>(E5 H b).held hn⟩
theorem ACalls.freeze{f:Nat}{args args':List D}{H:Heap}{Q:D→Heap→Prop}{b sz:Nat}{es:List (List D)}(hb:H b=some (.vec sz es))(hl:args.length=args'.length)(m: ∀(i:Nat) d d',args[i]? =some d→args'[i]? =some d'→Fz b sz es d d')
  (h:ACalls P f args' (H.del b) Q):ACalls P f args H Q:=
 h.shift fun w vs h1 o g=>⟨by omega,fun i d' e=>by
  have p:=(D1j.1 e).1;have j:args[i]? =some (args[i]'(by omega)):=D1q _;exact(m i _ _ j e).R g hb (o i _ j),g.less (E5 H b),fun _ hn=>(E5 H b).held hn⟩
theorem R.nil_sl{w:World}{H:Heap}{v:Value}(sz:Nat)(h:R w H .nilsl v):R w H (.sl sz []) v:=by cases h;exact .sl0 _ _ _
theorem B17{f:Nat}{H:Heap}{Q:D→Heap→Prop}(sz:Nat)(h:ACalls P f [.sl sz []] H Q):ACalls P f [.nilsl] H Q:=
 ACalls.shift (args':=[.sl sz []]) (fun w vs h1 g j=>⟨h1,fun i d e=>by
  match i,e with
  |0,e=>simp at e;subst e;exact(g 0 _ rfl).nil_sl sz
  |i+1,e=>simp at e,j,fun _ hn=>hn⟩) h
theorem A0n{f:Nat}{a:D}{H:Heap}{Q:D→Heap→Prop}(sz:Nat)(h:ACalls P f [a,.sl sz []] H Q):ACalls P f [a,.nilsl] H Q:=
 ACalls.shift (args':=[a,.sl sz []]) (fun w vs h1 g j=>⟨h1,fun i d e=>by
  match i,e with
  |0,e=>simp at e;subst e;exact g 0 _ rfl
  |1,e=>simp at e;subst e;exact(g 1 _ rfl).nil_sl sz
  |i+2,e=>simp at e,j,fun _ hn=>hn⟩) h
end
def B(s:ByteArray):List UInt8:=s.data.toList
@[simp] theorem M8(s:ByteArray):(B s).length=s.size:=by simp[B]
theorem N7{s t:ByteArray}(h:B s=B t):s=t:=by
 apply ByteArray.ext;unfold B at h;exact Array.toList_inj.1 h
def S(l:List UInt8):ByteArray:=⟨l.toArray⟩
@[go_sem] theorem Q7(l:List UInt8):B (S l)=l:=by simp[B,S]
theorem S_B(s:ByteArray):S (B s)=s:=N7 (Q7 _)
@[go_sem] theorem J3(l:List UInt8):(S l).size=l.length:=by rw[←M8,Q7]
theorem C6e{l m:List UInt8}(h:S l=S m):l=m:=by rw[←Q7 l,h,Q7]
@[go_sem] theorem D1I(l:List UInt8):B (ByteArray.mk l.toArray)=l:=Q7 l
@[go_sem] theorem M9(x y:ByteArray):B (x++y)=B x++B y:=by simp[B,ByteArray.data_append]
attribute [go_sem] M8
theorem A4l(s:ByteArray)(l h:Nat):s.extract l h=S (((B s).take h).drop l):=by
 apply N7;rw[Q7];simp[B,ByteArray.data_extract,List.extract_eq_take_drop];rw[List.drop_take]
theorem A0M(l:List UInt8):B ⟨l.toArray⟩=l:=by simp[B]
def B9q(P:Program)(Z:List (Nat×Rc))(b:Code)(Q:AX→Env→Heap→Prop):AX→Env→Heap→Prop
 | .normal,E,H=>wp P Z b Q E H
 | .exit i,E,H=>Q (.exit i) E H
 | .ret,E,H=>Q .ret E H
def A85(id:Nat)(Q:AX→Env→Heap→Prop):AX→Env→Heap→Prop
 | .normal,E,H=>Q .normal E H
 | .exit i,E,H=>if i=id then Q .normal E H else Q (.exit i) E H
 | .ret,E,H=>Q .ret E H
def A6n(Q:AX→Env→Heap→Prop)(K:Env→Heap→Prop):AX→Env→Heap→Prop
 | .normal,E,H=>K E H
 | .exit i,E,H=>Q (.exit i) E H
 | .ret,E,H=>Q .ret E H
def B3d(Q:AX→Env→Heap→Prop):Env→Heap→Prop:=fun E H=>Q .normal E H
def B6S(P:Program)(Z:List (Nat×Rc))(c:Code)(Q:AX→Env→Heap→Prop)(E:Env)(H:Heap):Prop:=B3c (fun K=>wp P Z c (A6n Q K)) E H
def opK(P:Program)(gs:List (Option Nat))(K:Env→Heap→Prop)(l:List Oper)(dst:Option Nat)(E:Env):D→Heap→Prop:=fun d H=>wpOps P gs K l (E.put dst d) H
def R1(o:Option D)(K:D→Heap→Prop)(H:Heap):Prop:=∃d,o=some d∧K d H
def B0n(o:Option Heap)(K:D→Heap→Prop):Prop:=∃H',o=some H'∧K .undef H'
def B0o(P:Program)(Z:List (Nat×Rc))(c:Operand)(d:D)(x y:Code)(Q:AX→Env→Heap→Prop)(E:Env)(H:Heap):Prop:=∃b,d= .bool b∧(b=true→wp P Z x Q (E.fix c true) H)∧(b=false→wp P Z y Q (E.fix c false) H)
def A0s(P:Program)(gs:List (Option Nat))(K:Env→Heap→Prop)(l:List Oper)(dst:Option Nat)(op:Op)(s:Nat)(d:D)(want:Bool)(E:Env)(H:Heap):Prop:=
 (d= .tuple []∧wpOps P gs K l (E.put dst (.tuple [])) H)∨
 ∃b,d= .bool b∧(b=want→D1 P (Env.ev ((s,.bool want)::E)) H (opK P gs K l dst ((s,.bool want)::E)) op)∧(b= !want→wpOps P gs K l (Env.put ((s,.bool (!want))::E) dst (.tuple [])) H)
def B2Z(P:Program)(gs:List (Option Nat))(K:Env→Heap→Prop)(l:List Oper)(dst:Option Nat)(op:Op)(s:Option Nat)(want:Bool)(E:Env)(H:Heap):Prop:=match s with
 |none=>wpOps P gs K l (E.put dst (.tuple [])) H
 |some s=>A0s P gs K l dst op s (E.get s) want E H
def B6T(P:Program)(f:D)(args:List D)(H:Heap)(K:D→Heap→Prop):Prop:=match f with
 | .fn (.func g) first captured=>ACalls P g (first++args++captured) H K
 |_=>False
def Fin(Q:D→Heap→Prop)(d:D)(H:Heap):Prop:=∃H' d',Shift H d H' d'∧Q d' H'
def B9r(o:Option D)(Q:D→Heap→Prop)(H:Heap):Prop:=∃r,o=some r∧Fin Q r H
theorem Fin.less{Q:D→Heap→Prop}{d:D}{H H':Heap}(hl:H'.Le H)(h:Q d H'):Fin Q d H:=⟨H',d,.less hl d,h⟩
theorem D21:type_of% @Fin.less:=@Fin.less
theorem Fin.same{Q:D→Heap→Prop}{d:D}{H:Heap}(h:Q d H):Fin Q d H:=⟨H,d,.less (D20 H) d,h⟩
theorem D22:type_of% @Fin.same:=@Fin.same
theorem Fin.freeze{Q:D→Heap→Prop}{d d':D}{H:Heap}{b sz:Nat}{es:List (List D)}(hb:H b=some (.vec sz es))(g:Fz b sz es d d')(h:Fin Q d' (H.del b)):Fin Q d H:=
 let ⟨H',e,h1,h2⟩:=h;⟨H',e,(Shift.freeze hb g).trans h1,h2⟩
theorem Fin.then{Q:D→Heap→Prop}{d:D}{H H':Heap}(hl:H'.Le H)(h:Fin Q d H'):Fin Q d H:=
 let ⟨H1,e,h1,h2⟩:=h;⟨H1,e,(Shift.less hl d).trans h1,h2⟩
theorem B3T{Q:D→Heap→Prop}{ds:List D}{H:Heap}{b sz n:Nat}{es:List (List D)}(hb:H b=some (.vec sz es))(hn:n=es.length)(h:Fin Q (.tuple (.sl sz es::ds)) (H.del b)):Fin Q (.tuple (.vec b sz 0 n::ds)) H:=by
 subst hn;refine Fin.freeze hb (.tuple _ _ (by simp) fun i d d' h1 e=>?_) h;cases i with
 |zero=>simp at h1 e;subst h1;subst e;exact .all
 |succ i=>simp at h1 e;rw[h1]at e;cases e;exact .same _
theorem Fin.nilsl{Q:D→Heap→Prop}{H:Heap}(sz:Nat)(ds:List D)(h:Fin Q (.tuple (.sl sz []::ds)) H):Fin Q (.tuple (.nilsl::ds)) H:=
 let ⟨H1,e,h1,h2⟩:=h;⟨H1,e,Shift.trans (fun w v hr hs=>⟨by
  obtain⟨vs,rfl,hl,g⟩:=hr.tuple_inv;refine .tuple _ _ (by simpa using hl) fun i d j=>?_;cases i with
  |zero=>simp at j;subst j;have:=g 0 _ rfl;generalize vs.getD 0 Go.undef=u at this;cases this;exact .sl0 _ _ _
  |succ i=>exact g (i+1) d (by simpa using j),hs,fun _ hn=>hn⟩) h1,h2⟩
theorem A5R{P:Program}{t:Nat}{k:IntKind}(h:P.underlying t=some (.int k)):C6 P t= .int:=by unfold C6;rw[h]
section
variable {P:Program} {Z:List (Nat×Rc)} {Q:AX→Env→Heap→Prop} {E:Env} {H:Heap} {K:Env→Heap→Prop} {gs:List (Option Nat)} {l:List Oper} {KD:D→Heap→Prop} {ev:Operand→D} {bl:List Nat}
@[go_sem] theorem C8F:wp P Z .skip Q E H=Q .normal E H:=rfl
def A5S(P:Program)(gs:List (Option Nat))(ops:List Oper)(K:Env→Heap→Prop)(E:Env)(H:Heap):Option Rc→Prop
 |none=>wpOps P gs K ops E H
 |some (.rd sx)=>∃bl,(∀k∈bl,H k≠none)∧A81 P sx bl K ops E H
 |some .par=>∃(cs:Nat→CR) (bs:Nat→Bl),B4q bs 0 ops∧wpP P gs cs bs K 0 ops E H
 |some (.ord perm)=>∃bl:List Nat,wpG P bl K (perm.map (A2A ops)) E H
 |some .rg=>∃bl,(∀k∈bl,H k≠none)∧Z7 P bl gs K ops E H
 |some .wk=>∃E0 H0,A1b E0 H0 E H∧wpOps P gs K ops E0 H0
 |some .any=>C3M P K ops.toArray E H
@[go_sem] theorem C5W(id:Nat)(l:List Oper)(d:Bool):wp P Z (.region id l.toArray d) Q E H=A5S P (l.map (·.dst)) l (B3d Q) E H (A0r id Z):=by
 show (match A0r id Z with|none=>_|some (.rd sx)=>_|some .par=>_|some (.ord perm)=>_|some .rg=>_|some .wk=>_|some .any=>_)=_;unfold A5S;cases A0r id Z with
 |none=>rfl
 |some r=>cases r<;>rfl
@[go_sem] theorem C3N(id:Nat):A0r id []=none:=rfl
@[go_sem] theorem C17(id i:Nat)(sx:Rc)(Z:List (Nat×Rc)):A0r id ((i,sx)::Z)=if id=i then some sx else A0r id Z:=rfl
@[go_sem] theorem C3O(d:List (Option Nat))(ops:List Oper):A5S P d ops K E H none=wpOps P d K ops E H:=rfl
theorem F7{d:List (Option Nat)}{ops:List Oper}(cs:Nat→D)(bl:List Nat)(h:wpP P d (fun i=>.c (cs i)) (fun _=>⟨bl,[],[]⟩) K 0 ops E H):A5S P d ops K E H (some .par):=⟨_,_,A3H bl _ _,h⟩
theorem B3e{d:List (Option Nat)}{ops:List Oper}(cs:Nat→CR)(bl:List Nat)(h:wpP P d cs (fun _=>⟨bl,[],[]⟩) K 0 ops E H):A5S P d ops K E H (some .par):=⟨cs,_,A3H bl _ _,h⟩
theorem C3P{d:List (Option Nat)}{ops:List Oper}{perm:List Nat}(bl:List Nat)(h:wpG P bl K (perm.map (A2A ops)) E H):A5S P d ops K E H (some (.ord perm)):=⟨bl,h⟩
def gK(P:Program)(bl:List Nat)(K:Env→Heap→Prop)(l:List (Option Oper))(dst:Option Nat)(E:Env)(H:Heap):D→Heap→Prop:=fun d H'=>(l= []∨∀k∈bl,H' k=H k)∧wpG P bl K l (E.put dst d) H'
@[go_sem] theorem C8G(bl:List Nat)(K:Env→Heap→Prop)(dst:Option Nat)(E:Env)(H H':Heap)(d:D):gK P bl K [] dst E H d H'=wpG P bl K [] (E.put dst d) H':=propext ⟨fun h=>h.2,fun h=>⟨.inl rfl,h⟩⟩
@[go_sem] theorem C9B(bl:List Nat)(K:Env→Heap→Prop)(o:Option Oper)(l:List (Option Oper))(dst:Option Nat)(E:Env)(H H':Heap)(d:D):gK P bl K (o::l) dst E H d H'=((∀k∈bl,H' k=H k)∧wpG P bl K (o::l) (E.put dst d) H'):=propext ⟨fun h=>⟨h.1.resolve_left (by simp),h.2⟩,fun h=>⟨.inr h.1,h.2⟩⟩
@[go_sem] theorem D0W(bl:List Nat):wpG P bl K [] E H=K E H:=rfl
@[go_sem] theorem C9C(bl:List Nat)(l:List (Option Oper))(dst:Option Nat)(t:Nat)(x:Operand)(ty:Nat)(pos:String)(after:Array Edge)(d:Option (Nat×Bool)):
  wpG P bl K (some ⟨dst,.load t x,ty,pos,after,d⟩::l) E H=((∀b∈rdB (E.ev x),b∈bl)∧D1 P E.ev H (gK P bl K l dst E H) (.load t x)):=by
 show ((I4 P (.load t x)= .load→_)∧_)=_;simp only[I4,true_implies,B6N];rfl
def B3f:Op→Bool
 | .load .. =>false
 |_=>true
theorem B6U{op:Op}(h:I4 P op= .load):B3f op=false:=by
 cases op
 case load=>rfl
 case convert s t x=>simp only[I4]at h;split at h<;>cases h
 case call cc=>
  obtain⟨c,d,e⟩:=cc;cases c with
  |builtin b=>
   cases b<;>simp only[I4]at h<;>first|cases h|(split at h<;>cases h)
  |_=>simp[I4]at h
 all_goals (simp[I4]at h)
theorem C9D(bl:List Nat)(l:List (Option Oper))(dst:Option Nat)(op:Op)(ty:Nat)(pos:String)(after:Array Edge)(d:Option (Nat×Bool))(h:B3f op=true):
  wpG P bl K (some ⟨dst,op,ty,pos,after,d⟩::l) E H=D1 P E.ev H (gK P bl K l dst E H) op:=by
 have hc:I4 P op≠ .load:=fun g=>by rw[B6U g]at h;cases h
 show ((I4 P op= .load→_)∧_)=_;simp only[hc,false_implies,true_and];rfl
@[go_sem] theorem C8H(t:Nat)(a x:Operand)(bl:List Nat)(l:List (Option Oper))(dst:Option Nat)(ty:Nat)(pos:String)(after:Array Edge)(d:Option (Nat×Bool)):wpG P bl K (some ⟨dst,.store t a x,ty,pos,after,d⟩::l) E H=D1 P E.ev H (gK P bl K l dst E H) (.store t a x):=C9D _ _ _ _ _ _ _ _ rfl
@[go_sem] theorem C5X(o:Oper)(l:List Oper):A2A (o::l) 0=some o:=rfl
@[go_sem] theorem C5Y(o:Oper)(l:List Oper)(i:Nat):A2A (o::l) (i+1)=A2A l i:=rfl
@[go_sem] theorem C9E(a b:Code):wp P Z (.seq a b) Q E H=wp P Z a (B9q P Z b Q) E H:=by
 show wp P Z a _ E H=wp P Z a _ E H
 congr 1;funext x;cases x<;>rfl
@[go_sem] theorem C8I(c:Operand)(x y:Code):wp P Z (.cond c x y) Q E H=B0o P Z c (E.ev c) x y Q E H:=rfl
@[go_sem] theorem C6f(id:Nat)(c:Code):wp P Z (.block id c) Q E H=wp P Z c (A85 id Q) E H:=by
 show wp P Z c _ E H=wp P Z c _ E H
 congr 1;funext x;cases x<;>rfl
@[go_sem] theorem C8J(c:Code):wp P Z (.loop c) Q E H=B6S P Z c Q E H:=by
 show B3c _ E H=B3c _ E H
 congr 1;funext K;congr 1;funext x;cases x<;>rfl
@[go_sem] theorem C8K(id:Nat):wp P Z (.exit id) Q E H=Q (.exit id) E H:=rfl
@[go_sem] theorem C9F:wp P Z .ret Q E H=Q .ret E H:=rfl
@[go_sem] theorem C6g(c:Code):wp P Z (.scope c) Q E H=wp P Z c Q E H:=rfl
@[go_sem] theorem C6h(l:Nat):wp P Z (.label l) Q E H=Q .normal E H:=rfl
@[go_sem] theorem C18(b:Code):B9q P Z b Q .normal E H=wp P Z b Q E H:=rfl
@[go_sem] theorem C5Z(b:Code)(i:Nat):B9q P Z b Q (.exit i) E H=Q (.exit i) E H:=rfl
@[go_sem] theorem C6i(b:Code):B9q P Z b Q .ret E H=Q .ret E H:=rfl
@[go_sem] theorem B9N(i:Nat):A85 i Q .normal E H=Q .normal E H:=rfl
@[go_sem] theorem C19(i j:Nat):A85 i Q (.exit j) E H=if j=i then Q .normal E H else Q (.exit j) E H:=rfl
@[go_sem] theorem C3Q(i:Nat):A85 i Q .ret E H=Q .ret E H:=rfl
@[go_sem] theorem B9s:A6n Q K .normal E H=K E H:=rfl
@[go_sem] theorem C3R(j:Nat):A6n Q K (.exit j) E H=Q (.exit j) E H:=rfl
@[go_sem] theorem C5a:A6n Q K .ret E H=Q .ret E H:=rfl
@[go_sem] theorem C2A:B3d Q E H=Q .normal E H:=rfl
theorem A3K(c:Operand)(b:Bool)(x y:Code):B0o P Z c (.bool b) x y Q E H=((b=true→wp P Z x Q (E.fix c true) H)∧(b=false→wp P Z y Q (E.fix c false) H)):=by
 unfold B0o;simp only[D.bool.injEq,exists_eq_left']
attribute [go_sem low] A3K
@[go_sem high] theorem C3S(c:Operand)(x y:Code):B0o P Z c (.bool true) x y Q E H=wp P Z x Q (E.fix c true) H:=by rw[A3K];simp
@[go_sem high] theorem C2B(c:Operand)(x y:Code):B0o P Z c (.bool false) x y Q E H=wp P Z y Q (E.fix c false) H:=by rw[A3K];simp
@[go_sem] theorem C8L(t:Nat)(b:Bool):Env.fix E (.tmp t) b=(t,.bool b)::E:=rfl
@[go_sem] theorem C8M:wpOps P gs K [] E H=K E H:=rfl
@[go_sem] theorem C6j(dst:Option Nat)(op:Op)(ty:Nat)(pos:String)(after:Array Edge):wpOps P gs K (⟨dst,op,ty,pos,after,none⟩::l) E H=D1 P (Env.ev E) H (opK P gs K l dst E) op:=rfl
@[go_sem] theorem C5b(dst:Option Nat)(op:Op)(ty:Nat)(pos:String)(after:Array Edge)(j:Nat)(d:Bool):
  wpOps P gs K (⟨dst,op,ty,pos,after,some (j,d)⟩::l) E H=B2Z P gs K l dst op (I1 gs j) d E H:=by
 rw[wpOps];simp only[];unfold A18 B2Z;cases I1 gs j<;>rfl
@[go_sem] theorem B6V(g:Option Nat)(d:List (Option Nat)):I1 (g::d) 0=g:=rfl
@[go_sem] theorem B6W(g:Option Nat)(d:List (Option Nat))(j:Nat):I1 (g::d) (j+1)=I1 d j:=by simp[I1]
@[go_sem] theorem C2C(dst:Option Nat)(op:Op)(s:Nat)(d:Bool):B2Z P gs K l dst op (some s) d E H=A0s P gs K l dst op s (E.get s) d E H:=rfl
theorem l9(dst:Option Nat)(op:Op)(s:Nat)(b d:Bool):A0s P gs K l dst op s (.bool b) d E H=
  ((b=d→D1 P (Env.ev ((s,.bool d)::E)) H (opK P gs K l dst ((s,.bool d)::E)) op)∧(b= !d→wpOps P gs K l (Env.put ((s,.bool (!d))::E) dst (.tuple [])) H)):=by
 unfold A0s;simp only[D.bool.injEq,exists_eq_left',reduceCtorEq,false_and,false_or]
attribute [go_sem low] l9
@[go_sem high] theorem C2D(dst:Option Nat)(op:Op)(s:Nat)(d:Bool):A0s P gs K l dst op s (.tuple []) d E H=wpOps P gs K l (E.put dst (.tuple [])) H:=by
 unfold A0s;simp
@[go_sem high] theorem C5c(dst:Option Nat)(op:Op)(s:Nat):A0s P gs K l dst op s (.bool true) true E H=D1 P (Env.ev ((s,.bool true)::E)) H (opK P gs K l dst ((s,.bool true)::E)) op:=by rw[l9];simp
@[go_sem high] theorem C5d(dst:Option Nat)(op:Op)(s:Nat):A0s P gs K l dst op s (.bool false) false E H=D1 P (Env.ev ((s,.bool false)::E)) H (opK P gs K l dst ((s,.bool false)::E)) op:=by rw[l9];simp
@[go_sem high] theorem C5e(dst:Option Nat)(op:Op)(s:Nat):A0s P gs K l dst op s (.bool true) false E H=wpOps P gs K l (Env.put ((s,.bool true)::E) dst (.tuple [])) H:=by rw[l9];simp
@[go_sem high] theorem C5f(dst:Option Nat)(op:Op)(s:Nat):A0s P gs K l dst op s (.bool false) true E H=wpOps P gs K l (Env.put ((s,.bool false)::E) dst (.tuple [])) H:=by rw[l9];simp
@[go_sem] theorem C8N(dst:Option Nat)(d:D):opK P gs K l dst E d H=wpOps P gs K l (Env.put E dst d) H:=rfl
def C6k(P:Program)(bl:List Nat)(gs:List (Option Nat))(K:Env→Heap→Prop)(l:List Oper)(dst:Option Nat)(E:Env):D→Heap→Prop:=fun d H=>Z7 P bl gs K l (E.put dst d) H
def B6X(P:Program)(bl:List Nat)(gs:List (Option Nat))(K:Env→Heap→Prop)(l:List Oper)(dst:Option Nat)(op:Op)(s:Nat)(d:D)(want:Bool)(E:Env)(H:Heap):Prop:=
 (d= .tuple []∧Z7 P bl gs K l (E.put dst (.tuple [])) H)∨
 ∃b,d= .bool b∧(b=want→A6V P bl (Env.ev ((s,.bool want)::E)) H (C6k P bl gs K l dst ((s,.bool want)::E)) op)∧(b= !want→Z7 P bl gs K l (Env.put ((s,.bool (!want))::E) dst (.tuple [])) H)
theorem B0p(dst:Option Nat)(op:Op)(s:Nat)(b d:Bool):B6X P bl gs K l dst op s (.bool b) d E H=
  ((b=d→A6V P bl (Env.ev ((s,.bool d)::E)) H (C6k P bl gs K l dst ((s,.bool d)::E)) op)∧(b= !d→Z7 P bl gs K l (Env.put ((s,.bool (!d))::E) dst (.tuple [])) H)):=by
 unfold B6X;apply propext;constructor
 ·rintro(⟨h,_⟩|⟨e,h,h1⟩)
  ·cases h
  ·cases h;exact h1
 ·exact fun h=>.inr ⟨b,rfl,h⟩
attribute [go_sem low] B0p
def roH(H:Heap):Heap:=fun k=>match H k with
 |some (.ro cs)=>some (.ro cs)
 |_=>none
theorem A86{H:Heap}{k:Nat}{cs:List D}(h:H k=some (.ro cs)):roH H k=some (.ro cs):=by unfold roH;rw[h]
theorem A87(H:Heap):(roH H).Le H:=fun k o h=>by
 unfold roH at h;split at h
 ·rename_i cs e;cases h;exact e
 ·cases h
theorem A3r(H:Heap)(k:Nat):(roH H).held k=false:=by
 cases h:roH H k with
 |none=>exact I0 h
 |some o=>
  have d:=h;unfold roH at d;split at d
  ·cases d;rw[J6 h];rfl
  ·cases d
theorem C3T(H:Heap):H.sub (roH H)=H:=by
 funext k;unfold Heap.sub;rw[A3r];simp
def C9G(H:Heap)(b:Nat):Heap:=fun k=>if k=b then H k else roH H k
theorem B9t(H:Heap)(b:Nat):C9G H b b=H b:=if_pos rfl
@[go_sem] theorem A4m(d:D):R1 (some d) KD H=KD d H:=by simp[R1]
@[go_sem] theorem C6l(c:Prop) [Decidable c] (a:Option D):R1 (if c then a else none) KD H=(c∧R1 a KD H):=by
 by_cases h:c<;>simp[h,R1]
@[go_sem] theorem C5g(H':Heap):B0n (some H') KD=KD .undef H':=by simp[B0n]
@[go_sem] theorem C6m(c:Prop) [Decidable c] (a:Option Heap):B0n (if c then a else none) KD=(c∧B0n a KD):=by
 by_cases h:c<;>simp[h,B0n]
def tt:D→Heap→Prop:=fun _ _=>True
variable {sx:Bool} {bl:List Nat}
@[go_sem] theorem C8O(i j:Nat)(d:D)(E:Env):Env.get ((i,d)::E) j=if i=j then d else Env.get E j:=rfl
@[go_sem] theorem C8P(i:Nat)(d:D):Env.put E (some i) d=(i,d)::E:=rfl
@[go_sem] theorem B9u(d:D):Env.put E none d=E:=rfl
@[go_sem] theorem C9H(t:Nat):Env.ev E (.tmp t)=Env.get E t:=rfl
@[go_sem] theorem C9I(k:IntKind)(n:Int):Env.ev E (.const (.int k n))= .int k n:=rfl
@[go_sem] theorem C8Q(b:Bool):Env.ev E (.const (.bool b))= .bool b:=rfl
@[go_sem] theorem C9J(s:ByteArray):Env.ev E (.const (.string s))= .str s:=rfl
@[go_sem] theorem C6n:Env.ev E (.const (.slice none 0 0))= .nilsl:=rfl
@[go_sem] theorem C5h:Env.ev E (.const (.map none))= .nilmap:=rfl
@[go_sem] theorem C6o:Env.ev E (.const .nilIface)= .nilif:=rfl
@[go_sem] theorem C8R(f:Nat):Env.ev E (.func f)= .fn (.func f) [] []:=rfl
@[go_sem] theorem C9K(x:Operand):D1 P ev H KD (.move x)=KD (ev x) H:=A4m _
@[go_sem] theorem C6p(x:Operand):D1 P ev H KD (.assign x)=KD (ev x) H:=A4m _
def B3g:D→D→D→Option D
 | .bool t,a,b=>some (if t then a else b)
 |_,_,_=>none
@[go_sem high] theorem C5i(a b:D):B3g (.bool true) a b=some a:=rfl
@[go_sem high] theorem C3U(a b:D):B3g (.bool false) a b=some b:=rfl
@[go_sem] theorem C9L(c a b:Operand):D1 P ev H KD (.pick c a b)=R1 (B3g (ev c) (ev a) (ev b)) KD H:=by
 show R1 _ KD H=_;simp only[L2,B3g]
 congr 1
 cases ev c<;>rfl
def A88:D→Option D
 | .box b off=>some (.box b off)
 | .el b sz i off=>some (.el b sz i off)
 | .ro cs=>some (.ro cs)
 | .fn (.func f) a b=>some (.fn (.func f) a b)
 |_=>none
@[go_sem] theorem C5j(b off:Nat):A88 (.box b off)=some (.box b off):=rfl
@[go_sem] theorem C6q(b sz i off:Nat):A88 (.el b sz i off)=some (.el b sz i off):=rfl
@[go_sem] theorem C8S(x:Operand):D1 P ev H KD (.nilCheck x)=R1 (A88 (ev x)) KD H:=by
 show R1 _ KD H=_;simp only[L2,A88];generalize ev x=d;cases d<;>rfl
@[go_sem] theorem D0X(op:BinOp)(t:Nat)(x y:Operand)(d:Nat):D1 P ev H KD (.binOp op t x y d)=R1 (A12 P op t (L3 x||L3 y) (ev x) (ev y)) KD H:=rfl
@[go_sem] theorem D1J(op:UnOp)(t:Nat)(x:Operand):D1 P ev H KD (.unOp op t x)=R1 (unD op (ev x)) KD H:=rfl
@[go_sem] theorem C8T(t:Nat)(x:Operand)(f:Nat):D1 P ev H KD (.fieldAddr t x f)=R1 (Z3 P t (ev x) f) KD H:=rfl
@[go_sem] theorem C8U(t:Nat)(x i:Operand):D1 P ev H KD (.indexAddr t x i)=R1 (Q9 P t (ev x) (ev i)) KD H:=rfl
@[go_sem] theorem C8V(t:Nat)(x i:Operand):D1 P ev H KD (.index t x i)=R1 (A6Q P t (ev x) (ev i)) KD H:=rfl
@[go_sem] theorem C8W(t:Nat)(x:Operand)(lo d:Option Operand):D1 P ev H KD (.slice t x lo d none)=R1 (U5 P t (ev x) (lo.map ev) (d.map ev)) KD H:=rfl
def A6o:D→Nat→Option D
 | .tuple ds,i=>ds[i]?
 |_,_=>none
@[go_sem] theorem B9O(ds:List D)(i:Nat):A6o (.tuple ds) i=ds[i]? :=rfl
@[go_sem] theorem C5k(x:Operand)(i:Nat):D1 P ev H KD (.extract x i)=R1 (A6o (ev x) i) KD H:=by
 show R1 _ KD H=_;simp only[L2,A6o]
 congr 1
 cases ev x<;>rfl
@[go_sem] theorem C9M(t:Nat)(x:Operand):D1 P ev H KD (.load t x)=R1 (A0H P t (ev x) H) KD H:=rfl
@[go_sem] theorem C8X(t:Nat)(a x:Operand):D1 P ev H KD (.store t a x)=B0n (Z5 P t (ev a) (ev x) H) KD:=rfl
def B2a(z:Option (List D))(Z:Option TypeId)(H:Heap)(KD:D→Heap→Prop):Prop:=∃c,z=some c∧∀b,H b=none→KD (.box b 0) (H.set b (.box c Z))
@[go_sem] theorem C8Y(t:Nat):D1 P ev H KD (.alloc t)=B2a (G1 P t) (A1y P t) H KD:=rfl
@[go_sem] theorem C2E(c:List D)(Z:Option TypeId):B2a (some c) Z H KD= ∀b,H b=none→KD (.box b 0) (H.set b (.box c Z)):=by simp[B2a]
@[go_sem] theorem D0Y(t:Nat)(x:Operand):D1 P ev H KD (.box t x)=((ev x).cells.all D.one=true∧∀b,H b=none→KD (.box b 0) (H.set b (.box (ev x).cells))):=rfl
@[go_sem] theorem C9N(f:Operand)(args:List Operand)(d:Array Nat):D1 P ev H KD (.call ⟨.value f,args.toArray,d⟩)=B6T P (ev f) (args.map ev) H KD:=by
 show (match ev f with| .fn (.func g) first captured=>ACalls P g (first++args.toArray.toList.map ev++captured) H KD|_=>False)=_;unfold B6T;rfl
@[go_sem] theorem C6r(g:Nat)(fs d cs:List D):B6T P (.fn (.func g) fs cs) d H KD=ACalls P g (fs++d++cs) H KD:=rfl
def C6s:Option Obj→Option (List (D×D))
 |some (.map kvs)=>some kvs
 |_=>none
@[go_sem] theorem C6t(kvs:List (D×D)):C6s (some (.map kvs))=some kvs:=rfl
@[go_sem] theorem C8Z(b:Nat):Y9 H (.map b)=C6s (H b):=by
 simp only[Y9];generalize H b=o;cases o with
 |none=>rfl
 |some o=>cases o<;>rfl
@[go_sem] theorem C9O(kvs:List (D×D)):Y9 H (.fm kvs)=some kvs:=rfl
def B6Y(o:Option (List (D×D)))(KD:List (D×D)→Prop):Prop:=∃kvs,o=some kvs∧KD kvs
@[go_sem] theorem C5l(kvs:List (D×D))(K:List (D×D)→Prop):B6Y (some kvs) K=K kvs:=by simp[B6Y]
def B6Z(bs:R9)(P:Program)(t:Nat)(d:D)(H:Heap)(KD:D→Heap→Prop):Prop:=match bs with
 | .map=>B6Y (Y9 H d) fun kvs=>KD (.int .i64 kvs.length) H
 |_=>R1 (A6P P t d) KD H
@[go_sem] theorem C6u(t:Nat)(d:D):B6Z .map P t d H KD=B6Y (Y9 H d) fun kvs=>KD (.int .i64 kvs.length) H:=rfl
@[go_sem] theorem C3V(t:Nat)(d:D):B6Z .slice P t d H KD=R1 (A6P P t d) KD H:=rfl
@[go_sem] theorem C6v(t:Nat)(d:D):B6Z .str P t d H KD=R1 (A6P P t d) KD H:=rfl
@[go_sem] theorem D0Z(x:Operand)(t:Nat):D1 P ev H KD (.call ⟨.builtin .len,#[x],#[t]⟩)=B6Z (C6 P t) P t (ev x) H KD:=by
 unfold B6Z C6;cases d:P.underlying t with
 |none=>simp[D1,I4,d,R1,L2]
 |some u=>cases u<;>simp[D1,I4,d,R1,B6Y,L2]
def B9v(bs:R9)(d:D):Option D:=match d with
 | .nilsl=>if bs= .slice then some (.int .i64 0)else none
 |_=>none
@[go_sem] theorem C6w:B9v .slice .nilsl=some (.int .i64 0):=rfl
def B3h(z:Option D)(kvs:Option (List (D×D)))(kk:KK)(k:D)(ok:Bool):Option D:=match z,kvs with
 |some z,some kvs=>(Q1 kk k kvs 0).map (A3E ok z)
 |_,_=>none
@[go_sem] theorem C3W(z k:D)(kvs:List (D×D))(d:KK)(ok:Bool):B3h (some z) (some kvs) d k ok=(Q1 d k kvs 0).map (A3E ok z):=rfl
def B6a(T:Option (TypeId×TypeId×KK))(P:Program)(m k:D)(ok:Bool)(H:Heap):Option D:=match T with
 |some (_,et,kk)=>if S9 kk k=true then B3h (A6T P et) (Y9 H m) kk k ok else none
 |none=>none
@[go_sem] theorem C3X(g e:TypeId)(d:KK)(m k:D)(ok:Bool):B6a (some (g,e,d)) P m k ok H=if S9 d k=true then B3h (A6T P e) (Y9 H m) d k ok else none:=rfl
@[go_sem] theorem C6x(t:Nat)(m k:Operand)(ok:Bool):D1 P ev H KD (.lookup t m k ok)=R1 (B6a (A3g P t) P (ev m) (ev k) ok H) KD H:=by
 show R1 (A1U P t (ev m) (ev k) ok H) KD H=_;unfold A1U B6a B3h;cases A3g P t with
 |none=>rfl
 |some T=>
  obtain⟨e,d,g⟩:=T;simp only[D13];cases A6T P d<;>cases Y9 H (ev m)<;>simp
@[go_sem] theorem C6y(z d:D)(i:Nat):A3E true z (some (i,d))= .tuple [d,.bool true]:=rfl
@[go_sem] theorem C6z(z:D):A3E true z none= .tuple [z,.bool false]:=rfl
@[go_sem] theorem C5m(b:R9)(s:ByteArray):S9 (.one b) (.str s)=true:=rfl
def B3i(o:Option Obj)(b:Nat)(kk:KK)(k x:D)(H:Heap):Option Heap:=match o with
 |some (.map kvs)=>(Q1 kk k kvs 0).map fun r=>H.set b (.map (A6U kvs k x r))
 |_=>none
@[go_sem] theorem C5n(kvs:List (D×D))(b:Nat)(d:KK)(k x:D):B3i (some (.map kvs)) b d k x H=(Q1 d k kvs 0).map fun r=>H.set b (.map (A6U kvs k x r)):=rfl
def B6b(T:Option (TypeId×TypeId×KK))(m k x:D)(H:Heap):Option Heap:=match T,m with
 |some (_,_,kk),.map b=>if S9 kk k=true then B3i (H b) b kk k x H else none
 |_,_=>none
@[go_sem] theorem C3Y(e g:TypeId)(d:KK)(b:Nat)(k x:D):B6b (some (e,g,d)) (.map b) k x H=if S9 d k=true then B3i (H b) b d k x H else none:=rfl
@[go_sem] theorem C2F(t:Nat)(m k x:Operand):D1 P ev H KD (.mapUpdate t m k x)=B0n (B6b (A3g P t) (ev m) (ev k) (ev x) H) KD:=by
 show B0n (A3h P t (ev m) (ev k) (ev x) H) KD=_;unfold A3h B6b B3i;cases A3g P t with
 |none=>rfl
 |some T=>
  obtain⟨d,e,g⟩:=T;simp only[D13];cases ev m<;>try(simp;done)
  rename_i b;simp only;cases H b with
  |none=>simp
  |some o=>cases o<;>simp
@[go_sem] theorem C5o(t:Nat):D1 P ev H KD (.makeMap t none)= ∀b,H b=none→KD (.map b) (H.set b (.map [])):=rfl
@[go_sem] theorem D0a(x:Operand)(t:Nat):D1 P ev H KD (.call ⟨.builtin .cap,#[x],#[t]⟩)=R1 (B9v (C6 P t) (ev x)) KD H:=by
 have e:L2 P ev (.call ⟨.builtin .cap,#[x],#[t]⟩)=B9v (C6 P t) (ev x):=by
  simp only[L2,List.getElem?_toArray,List.getElem?_cons_zero,Option.map_some];unfold B9v;cases ev x<;>rfl
 show (∃d,L2 P ev (.call ⟨.builtin .cap,#[x],#[t]⟩)=some d∧KD d H)=_;rw[e];rfl
@[go_sem] theorem D0b(x y:Operand)(d:Array Nat):D1 P ev H KD (.call ⟨.builtin .min,#[x,y],d⟩)=R1 (A7n (ev x) (ev y)) KD H:=by
 show R1 (A5J A7n [ev x,ev y]) KD H=_;simp[A5J]
@[go_sem] theorem D0c(x y:Operand)(d:Array Nat):D1 P ev H KD (.call ⟨.builtin .max,#[x,y],d⟩)=R1 (A7o (ev x) (ev y)) KD H:=by
 show R1 (A5J A7o [ev x,ev y]) KD H=_;simp[A5J]
@[go_sem] theorem C60(s x:Operand)(t d:Nat):D1 P ev H KD (.call ⟨.builtin .append,#[s,x],#[t,d]⟩)=A1T P ev H KD t d s x:=rfl
def C3Z(P:Program)(t:Nat)(d:D):Option D:=if C6 P t= .iface∨(P.underlying t).isNone then none else some (.iface t d)
@[go_sem] theorem C5p(t:Nat)(x:Operand):D1 P ev H KD (.makeInterface t x)=R1 (C3Z P t (ev x)) KD H:=rfl
@[go_sem] theorem C9P(fn:Fn)(fs cs:List Operand):D1 P ev H KD (.makeFunc fn fs.toArray cs.toArray)=KD (.fn fn (fs.map ev) (cs.map ev)) H:=by
 show R1 _ KD H=_;simp[L2,A4m]
def A89(P:Program)(t:Nat)(ps:List (Nat×D)):Option D:=match C6 P t with
  | .struct=>(G1 P t).bind fun z=>(M0 P t).bind fun fs=>(u7 (fun i=>(fs[i]?).map fun f=>(f.1,f.2.2)) z ps).map .agg
  | .other=>(G1 P t).bind fun z=>(B2F P t).bind fun s=>(u7 (fun i=>some (i*s.2,s.2)) z ps).map .agg
  |_=>none
def B6c(z:Option (List D))(s:Option (Nat×Nat))(ps:List (Nat×D)):Option D:=match z,s with
 |some z,some s=>(u7 (fun i=>some (i*s.2,s.2)) z ps).map .agg
 |_,_=>none
def B2b(b:R9)(z:Option (List D))(fs:Option (List (Nat×Bool×Nat)))(s:Option (Nat×Nat))(ps:List (Nat×D)):Option D:=match b with
 | .struct=>match z,fs with
  |some z,some fs=>(u7 (fun i=>(fs[i]?).map fun f=>(f.1,f.2.2)) z ps).map .agg
  |_,_=>none
 | .other=>B6c z s ps
 |_=>none
@[go_sem] theorem C5q(t:Nat)(ps:List (Nat×D)):A89 P t ps=B2b (C6 P t) (G1 P t) (M0 P t) (B2F P t) ps:=by
 unfold A89 B2b B6c;cases C6 P t<;>try rfl
 ·cases G1 P t<;>try rfl
  cases M0 P t<;>rfl
 ·cases G1 P t<;>try rfl
  cases B2F P t<;>rfl
@[go_sem] theorem C2G(z:List D)(fs:List (Nat×Bool×Nat))(s:Option (Nat×Nat))(ps:List (Nat×D)):B2b .struct (some z) (some fs) s ps=(u7 (fun i=>(fs[i]?).map fun f=>(f.1,f.2.2)) z ps).map .agg:=rfl
@[go_sem] theorem C61(d:Nat→Option (Nat×Nat))(cs:List D):u7 d cs []=some cs:=rfl
def B6d(o:Option (Nat×Nat))(pl:Nat→Option (Nat×Nat))(cs:List D)(d:D)(ps:List (Nat×D)):Option (List D):=match o with
 |none=>none
 |some (off,size)=>if d.cells.length=size∧off+size≤cs.length∧d.cells.all D.one=true then u7 pl (Q0 cs off d.cells) ps else none
@[go_sem] theorem C5r(e:Nat→Option (Nat×Nat))(cs:List D)(i:Nat)(d:D)(ps:List (Nat×D)):u7 e cs ((i,d)::ps)=B6d (e i) e cs d ps:=by
 rw[u7];unfold B6d;cases e i<;>rfl
@[go_sem] theorem C3a(off size:Nat)(e:Nat→Option (Nat×Nat))(cs:List D)(d:D)(ps:List (Nat×D)):B6d (some (off,size)) e cs d ps=if d.cells.length=size∧off+size≤cs.length∧d.cells.all D.one=true then u7 e (Q0 cs off d.cells) ps else none:=rfl
@[go_sem] theorem C8a(t:Nat)(ps:List (Nat×Operand)):D1 P ev H KD (.build t ps.toArray)=R1 (A89 P t (ps.map fun p=>(p.1,ev p.2))) KD H:=by
 show R1 _ KD H=_;simp only[L2,A89];cases C6 P t<;>rfl
variable {t:Nat} {c:Bool} {k:IntKind} {a b:Int}
@[go_sem] theorem D0d:L4 P .add t c (.int k a) (.int k b)=some (.int k (k.wrap (a+b))):=by simp[L4,A3f]
@[go_sem] theorem D0e:L4 P .sub t c (.int k a) (.int k b)=some (.int k (k.wrap (a-b))):=by simp[L4,A3f]
@[go_sem] theorem D0f:L4 P .mul t c (.int k a) (.int k b)=some (.int k (k.wrap (a*b))):=by simp[L4,A3f]
@[go_sem] theorem D0g:L4 P .quo t c (.int k a) (.int k b)=if b=0 then none else some (.int k (k.wrap (a.tdiv b))):=by simp[L4,A3f]
@[go_sem] theorem D0h:L4 P .rem t c (.int k a) (.int k b)=if b=0 then none else some (.int k (a.tmod b)):=by simp[L4,A3f]
@[go_sem] theorem D0i:L4 P .eql t c (.int k a) (.int k b)=some (.bool (decide (a=b))):=by simp[L4,A3f];rfl
@[go_sem] theorem D0j:L4 P .neq t c (.int k a) (.int k b)=some (.bool (!decide (a=b))):=by simp[L4,A3f];rfl
@[go_sem] theorem D0k:L4 P .lss t c (.int k a) (.int k b)=some (.bool (decide (a<b))):=by simp[L4,A3f]
@[go_sem] theorem D0l:L4 P .leq t c (.int k a) (.int k b)=some (.bool (decide (a≤b))):=by simp[L4,A3f]
@[go_sem] theorem D0m:L4 P .gtr t c (.int k a) (.int k b)=some (.bool (decide (b<a))):=by simp[L4,A3f]
@[go_sem] theorem D0n:L4 P .geq t c (.int k a) (.int k b)=some (.bool (decide (b≤a))):=by simp[L4,A3f]
@[go_sem] theorem C9Q(x y:ByteArray):L4 P .add t c (.str x) (.str y)=if x.size+y.size≤9223372036854775807 then some (.str (x++y))else none:=rfl
@[go_sem] theorem C9R(x y:ByteArray):L4 P .eql t c (.str x) (.str y)=some (.bool (decide (B x=B y))):=by
 show some (D.bool (x.data.toList==y.data.toList))=_;unfold B;generalize x.data.toList=a;generalize y.data.toList=b;by_cases h:a=b<;>simp[h]
@[go_sem] theorem C9S(x y:ByteArray):L4 P .neq t c (.str x) (.str y)=some (.bool (!decide (B x=B y))):=by
 show some (D.bool (!(x.data.toList==y.data.toList)))=_;unfold B;generalize x.data.toList=a;generalize y.data.toList=b;by_cases h:a=b<;>simp[h]
@[go_sem] theorem C9T(x y:ByteArray):L4 P .lss t c (.str x) (.str y)=some (.bool (Op.bytesLess x.data.toList y.data.toList)):=rfl
@[go_sem] theorem C9U(x y:Bool):L4 P .eql t c (.bool x) (.bool y)=if C6 P t= .bool then some (.bool (x==y))else none:=rfl
@[go_sem] theorem C9V(x y:Bool):L4 P .neq t c (.bool x) (.bool y)=if C6 P t= .bool then some (.bool (!(x==y)))else none:=rfl
@[go_sem] theorem C9W(x:Bool):unD .not (.bool x)=some (.bool (!x)):=rfl
@[go_sem] theorem C9X:unD .neg (.int k a)=some (.int k (k.wrap (0-a))):=rfl
@[go_sem] theorem C62(d:IntKind):A7n (.int k a) (.int d b)=some (.int k (if b<a then b else a)):=rfl
@[go_sem] theorem C63(d:IntKind):A7o (.int k a) (.int d b)=some (.int k (if a<b then b else a)):=rfl
@[go_sem] theorem C9Y(op:BinOp)(y:D):A12 P op t c (.int k a) y=L4 P op t c (.int k a) y:=by cases op<;>rfl
@[go_sem] theorem C9Z(op:BinOp)(x:ByteArray)(y:D):A12 P op t c (.str x) y=L4 P op t c (.str x) y:=by cases op<;>rfl
@[go_sem] theorem C8b(op:BinOp)(x:Bool)(y:D):A12 P op t c (.bool x) y=L4 P op t c (.bool x) y:=by cases op<;>rfl
@[go_sem] theorem C64(op:BinOp)(y:D):A12 P op t c .nilif y=L4 P op t c .nilif y:=by cases op<;>rfl
@[go_sem] theorem D0o(op:BinOp)(n:Nat)(es:List (List D))(y:D):A12 P op t c (.sl n es) y=L4 P op t c (.sl n es) y:=by cases op<;>rfl
@[go_sem] theorem C65(op:BinOp)(u:Nat)(d y:D):A12 P op t c (.iface u d) y=L4 P op t c (.iface u d) y:=by cases op<;>rfl
def C3b(l:Option (List (Nat×R9)))(xs ys:List D):Option Bool:=l.bind fun fs=>W0 fs xs ys
theorem A6p{sz:Nat}{es:List (List D)}(he:es≠[])(hb:C6 P t= .slice):L4 P .eql t true (.sl sz es) .nilsl=some (.bool false):=by
 cases es with
 |nil=>exact absurd rfl he
 |cons e es=>simp[L4,A6O,B0H,hb]
@[go_sem] theorem C3c(xs d:List D):A12 P .neq t c (.agg xs) (.agg d)=(C3b (A1R P t) xs d).map fun b=>.bool (!b):=by
 show (A1R P t).bind _=_;unfold C3b;cases A1R P t<;>rfl
@[go_sem] theorem C5s(fs:List (Nat×R9))(xs d:List D):C3b (some fs) xs d=W0 fs xs d:=rfl
@[go_sem] theorem C5t(xs d:List D):W0 [] xs d=some true:=rfl
def B6e(x y:Option D)(bs:R9)(r:Option Bool):Option Bool:=match x,y with
 |some x,some y=>(V9 bs x y).bind fun c=>r.map (c&& ·)
 |_,_=>none
@[go_sem] theorem C3d(o:Nat)(bs:R9)(fs:List (Nat×R9))(xs d:List D):W0 ((o,bs)::fs) xs d=B6e xs[o]? d[o]? bs (W0 fs xs d):=rfl
@[go_sem] theorem C66(k:IntKind)(a b:Int)(r:Option Bool):B6e (some (.int k a)) (some (.int k b)) .int r=r.map (decide (a=b)&& ·):=by
 simp[B6e,V9];rfl
@[go_sem] theorem C67(a b:ByteArray)(r:Option Bool):B6e (some (.str a)) (some (.str b)) .str r=r.map (decide (B a=B b)&& ·):=by
 have:(a.data.toList==b.data.toList)=decide (B a=B b):=by
  unfold B;generalize a.data.toList=x;generalize b.data.toList=y;by_cases h:x=y<;>simp[h]
 simp only[B6e,V9,this,D13]
def elB(o:Option Obj)(sz lo n:Nat):Option (List (List D)):=match o with
 |some (.vec sz' es)=>if sz=sz'∧lo+n≤es.length then some ((es.drop lo).take n)else none
 |_=>none
@[go_sem] theorem C8c(sz' sz lo n:Nat)(es:List (List D)):elB (some (.vec sz' es)) sz lo n=if sz=sz'∧lo+n≤es.length then some ((es.drop lo).take n)else none:=rfl
@[go_sem] theorem C68(sz sz':Nat)(es:List (List D)):M6 H sz (.sl sz' es)=if sz=sz' then some es else none:=rfl
@[go_sem] theorem C5u(sz b sz' lo n:Nat):M6 H sz (.vec b sz' lo n)=if sz=sz' then elB (H b) sz lo n else none:=by
 simp only[M6];generalize H b=o;cases o with
 |none=>rfl
 |some o=>cases o<;>rfl
@[go_sem] theorem C69(es:List (List D)):A4a es []=some es:=rfl
@[go_sem] theorem C5v(es:List (List D))(i:Nat)(d:D)(ps:List (Nat×D)):A4a es ((i,d)::ps)=if i<es.length∧d.cells.length=(es.getD i []).length∧d.cells.all D.one=true then A4a (es.set i d.cells) ps else none:=rfl
def bsC(o:Option (List (List D)))(sz len:Nat)(H:Heap)(KD:D→Heap→Prop):Prop:=match o with
 |some es=>∀b,H b=none→KD (.vec b sz 0 len) (H.set b (.vec sz es))
 |none=>False
@[go_sem] theorem C7A(es:List (List D))(sz len:Nat):bsC (some es) sz len H KD= ∀b,H b=none→KD (.vec b sz 0 len) (H.set b (.vec sz es)):=rfl
def bsB(z:Option (List D))(sz len:Nat)(ps:List (Nat×D))(H:Heap)(KD:D→Heap→Prop):Prop:=match z with
 |some z=>z.length=sz∧bsC (A4a (List.replicate len z) ps) sz len H KD
 |none=>False
@[go_sem] theorem C7B(z:List D)(sz len:Nat)(ps:List (Nat×D)):bsB (some z) sz len ps H KD=(z.length=sz∧bsC (A4a (List.replicate len z) ps) sz len H KD):=rfl
def bsA(P:Program)(et:Option (Nat×Nat×Nat))(len:Nat)(ps:List (Nat×D))(H:Heap)(KD:D→Heap→Prop):Prop:=match et with
 |some (e,sz,_)=>0<sz∧len*sz≤16777216∧bsB (G1 P e) sz len ps H KD
 |none=>False
@[go_sem] theorem C7C(e sz d len:Nat)(ps:List (Nat×D)):bsA P (some (e,sz,d)) len ps H KD=(0<sz∧len*sz≤16777216∧bsB (G1 P e) sz len ps H KD):=rfl
@[go_sem] theorem B9w(t len:Nat)(ps:List (Nat×Operand)):D1 P ev H KD (.buildSlice t len ps.toArray)=bsA P (G7 P t) len (ps.map fun p=>(p.1,ev p.2)) H KD:=by
 show (∃e sz d z es,G7 P t=some (e,sz,d)∧0<sz∧len*sz≤16777216∧G1 P e=some z∧z.length=sz∧A4a (List.replicate len z) (ps.map fun p=>(p.1,ev p.2))=some es∧_)=_;apply propext;constructor
 ·rintro⟨e,sz,d,z,es,h1,g,i,m,h5,o,q⟩;rw[h1];refine⟨g,i,?_⟩;rw[m];refine⟨h5,?_⟩;rw[o];exact q
 ·intro h;cases he:G7 P t with
  |none=>rw[he]at h;exact h.elim
  |some e=>
   obtain⟨e,sz,d⟩:=e;rw[he]at h;obtain⟨g,i,h⟩:=h;cases j:G1 P e with
   |none=>rw[j]at h;exact h.elim
   |some z=>
    rw[j]at h;obtain⟨h5,h⟩:=h;cases hs:A4a (List.replicate len z) (ps.map fun p=>(p.1,ev p.2))with
    |none=>rw[hs]at h;exact h.elim
    |some es=>rw[hs]at h;exact⟨e,sz,d,z,es,rfl,g,i,j,h5,hs,h⟩
def apV(o:Option Obj)(b sz n by_:Nat)(xs:List (List D))(H:Heap)(KD:D→Heap→Prop):Prop:=match o with
 |some (.vec sz' es)=>sz=sz'∧n≤es.length∧(n+xs.length)*by_≤140737488355328∧n+xs.length≤9223372036854775807∧∀b',H.del b b'=none→KD (.vec b' sz 0 (n+xs.length)) ((H.del b).set b' (.vec sz (es.take n++xs)))
 |_=>False
@[go_sem] theorem C8d(b sz sz' n d:Nat)(es xs:List (List D)):apV (some (.vec sz' es)) b sz n d xs H KD=(sz=sz'∧n≤es.length∧(n+xs.length)*d≤140737488355328∧n+xs.length≤9223372036854775807∧∀e,H.del b e=none→KD (.vec e sz 0 (n+xs.length)) ((H.del b).set e (.vec sz (es.take n++xs)))):=rfl
def apW(o:Option Obj)(b sz lo n by_:Nat)(xs:List (List D))(H:Heap)(KD:D→Heap→Prop):Prop:=match o with
 |some (.vec sz' es)=>sz=sz'∧lo+n≤es.length∧(n+xs.length)*by_≤140737488355328∧n+xs.length≤9223372036854775807∧∀b' pre,H.del b b'=none→KD (.vec b' sz pre.length (n+xs.length)) ((H.del b).set b' (.vec sz (pre++((es.drop lo).take n++xs))))
 |_=>False
def apL(lo:Nat)(o:Option Obj)(b sz n by_:Nat)(xs:List (List D))(H:Heap)(KD:D→Heap→Prop):Prop:=(lo=0∧apV o b sz n by_ xs H KD)∨apW o b sz lo n by_ xs H KD
@[go_sem] theorem D0s(o:Option Obj)(b sz n d:Nat)(xs:List (List D)):apL 0 o b sz n d xs H KD=apV o b sz n d xs H KD:=by
 refine propext ⟨fun h=>?_,fun h=>.inl ⟨rfl,h⟩⟩;rcases h with h|h
 ·exact h.2
 ·unfold apW at h;split at h
  ·obtain⟨h1,m,g,i,h5⟩:=h;exact⟨h1,by omega,g,i,fun j e=>by simpa using h5 j [] e⟩
  ·exact h.elim
def apS(s:D)(sz by_:Nat)(xs:List (List D))(H:Heap)(KD:D→Heap→Prop):Prop:=match s with
 | .nilsl=>xs.length*by_≤140737488355328∧xs.length≤9223372036854775807∧(xs= []→KD .nilsl H)∧(xs≠[]→∀b,H b=none→KD (.vec b sz 0 xs.length) (H.set b (.vec sz xs)))
 | .vec b sz' lo n=>sz'=sz∧apL lo (H b) b sz n by_ xs H KD
 |_=>False
@[go_sem] theorem C8e(sz d:Nat)(xs:List (List D)):apS .nilsl sz d xs H KD=(xs.length*d≤140737488355328∧xs.length≤9223372036854775807∧(xs= []→KD .nilsl H)∧(xs≠[]→∀b,H b=none→KD (.vec b sz 0 xs.length) (H.set b (.vec sz xs)))):=rfl
@[go_sem] theorem C8f(b sz sz' lo n d:Nat)(xs:List (List D)):apS (.vec b sz' lo n) sz d xs H KD=(sz'=sz∧apL lo (H b) b sz n d xs H KD):=rfl
def apX(o:Option (List (List D)))(s:D)(sz by_:Nat)(H:Heap)(KD:D→Heap→Prop):Prop:=match o with
 |some xs=>apS s sz by_ xs H KD
 |none=>False
@[go_sem] theorem C7D(xs:List (List D))(s:D)(sz d:Nat):apX (some xs) s sz d H KD=apS s sz d xs H KD:=rfl
def apZ(o:Option (List D))(sz:Nat):Prop:=match o with
 |some z=>z.length=sz
 |none=>False
@[go_sem] theorem C7E(z:List D)(sz:Nat):apZ (some z) sz=(z.length=sz):=rfl
def apT(b:R9):Prop:=b= .slice∨b= .str
@[go_sem] theorem C5w:apT .slice=True:=by simp[apT]
def apK(P:Program)(et:Option (Nat×Nat×Nat))(bt:R9)(s x:D)(H:Heap)(KD:D→Heap→Prop):Prop:=match et with
 |some (e,sz,by_)=>0<sz∧apT bt∧apZ (G1 P e) sz∧apX (M6 H sz x) s sz by_ H KD
 |none=>False
@[go_sem] theorem C7F(e sz d:Nat)(g:R9)(s x:D):apK P (some (e,sz,d)) g s x H KD=(0<sz∧apT g∧apZ (G1 P e) sz∧apX (M6 H sz x) s sz d H KD):=rfl
@[go_sem] theorem C5x(s x:Operand)(t C:Nat):A1T P ev H KD t C s x=apK P (G7 P t) (C6 P C) (ev s) (ev x) H KD:=by
 unfold A1T;apply propext;constructor
 ·rintro⟨e,sz,j,h1,r,u,i,xs,h5,q⟩;rw[h1];refine⟨r,u,?_,?_⟩
  ·cases m:G1 P e with
   |none=>rw[m]at i;cases i
   |some z=>rw[m]at i;simpa [apZ]using i
  ·rw[h5];show apS _ _ _ _ _ _;cases hs:ev s<;>rw[hs]at q<;>try exact q.elim
   ·exact q
   ·obtain⟨p,⟨y,es,d,g⟩|⟨es,d,g⟩⟩:=q
    ·refine⟨p,.inl ⟨y,?_⟩⟩;rw[d];exact⟨rfl,g⟩
    ·refine⟨p,.inr ?_⟩;rw[d];exact⟨rfl,g⟩
 ·intro h;cases he:G7 P t with
  |none=>rw[he]at h;exact h.elim
  |some e=>
   obtain⟨e,sz,j⟩:=e;rw[he]at h;obtain⟨r,u,i,h5⟩:=h;cases hx:M6 H sz (ev x)with
   |none=>rw[hx]at h5;exact h5.elim
   |some xs=>
    rw[hx]at h5;refine⟨e,sz,j,rfl,r,u,?_,xs,hx,?_⟩
    ·cases m:G1 P e with
     |none=>rw[m]at i;exact i.elim
     |some z=>rw[m]at i;simpa [apZ]using i
    ·change apS _ _ _ _ _ _ at h5;cases hs:ev s<;>rw[hs]at h5<;>try exact h5.elim
     ·exact h5
     ·rename_i b sz' lo n;obtain⟨p,⟨y,d⟩|d⟩:=h5
      ·refine⟨p,.inl ⟨y,?_⟩⟩;cases ho:H b with
       |none=>rw[ho]at d;exact d.elim
       |some o=>
        rw[ho]at d;cases o with
        |vec A es=>obtain⟨rfl,g⟩:=d;exact⟨es,rfl,g⟩
        |_=>exact d.elim
      ·refine⟨p,.inr ?_⟩;cases ho:H b with
       |none=>rw[ho]at d;exact d.elim
       |some o=>
        rw[ho]at d;cases o with
        |vec A es=>obtain⟨rfl,g⟩:=d;exact⟨es,rfl,g⟩
        |_=>exact d.elim
def msC(z:Option (List D))(sz by_:Nat)(l c:D)(H:Heap)(KD:D→Heap→Prop):Prop:=match z,l,c with
 |some z,.int _ n,.int _ m=>z.length=sz∧0≤n∧n≤m∧by_*m≤281474976710656∧m<9223372036854775808∧∀b,H b=none→KD (.vec b sz 0 n.toNat) (H.set b (.vec sz (List.replicate n.toNat z)))
 |_,_,_=>False
@[go_sem] theorem C8g(z:List D)(sz d:Nat)(k e:IntKind)(n m:Int):msC (some z) sz d (.int k n) (.int e m) H KD=(z.length=sz∧0≤n∧n≤m∧d*m≤281474976710656∧m<9223372036854775808∧∀b,H b=none→KD (.vec b sz 0 n.toNat) (H.set b (.vec sz (List.replicate n.toNat z)))):=rfl
def msA(P:Program)(et:Option (Nat×Nat×Nat))(l c:D)(H:Heap)(KD:D→Heap→Prop):Prop:=match et with
 |some (e,sz,by_)=>0<sz∧msC (G1 P e) sz by_ l c H KD
 |none=>False
@[go_sem] theorem C7G(e sz d:Nat)(l c:D):msA P (some (e,sz,d)) l c H KD=(0<sz∧msC (G1 P e) sz d l c H KD):=rfl
@[go_sem] theorem C2I(t:Nat)(l c:Operand):D1 P ev H KD (.makeSlice t l c)=msA P (G7 P t) (ev l) (ev c) H KD:=by
 simp only[D1];apply propext;constructor
 ·rintro⟨e,sz,g,z,k,n,r,m,h1,i,d,o,h5,p,q⟩;rw[h1,h5,p];refine⟨i,?_⟩;rw[d];exact⟨o,q⟩
 ·intro h;cases he:G7 P t with
  |none=>rw[he]at h;exact h.elim
  |some e=>
   obtain⟨e,sz,g⟩:=e;rw[he]at h;obtain⟨i,d⟩:=h;cases j:G1 P e with
   |none=>rw[j]at d;exact d.elim
   |some z=>
    rw[j]at d;cases hl:ev l<;>rw[hl]at d<;>try exact d.elim
    cases hc:ev c<;>rw[hc]at d<;>try exact d.elim
    exact⟨e,sz,g,z,_,_,_,_,rfl,i,j,d.1,rfl,rfl,d.2⟩
def A3s(P:Program)(t:Nat):Option IntKind:=match P.underlying t with
 |some (.int k)=>some k
 |_=>none
def A9A(P:Program)(t:Nat):Bool:=match P.underlying t with
 |some (.slice e)=>match P.underlying e with
  |some (.int .u8)=>true
  |_=>false
 |_=>false
def cvI(d:D)(k:Option IntKind)(H:Heap)(KD:D→Heap→Prop):Prop:=match d,k with
 | .int _ n,some k=>KD (.int k (k.wrap n)) H
 |_,_=>False
@[go_sem] theorem C8h(k d:IntKind)(n:Int):cvI (.int k n) (some d) H KD=KD (.int d (d.wrap n)) H:=rfl
@[go_sem] theorem C5y(s t:Nat)(x:Operand)(h1:(A3s P s).isSome=true)(d:(A3s P t).isSome=true):D1 P ev H KD (.convert s t x)=cvI (ev x) (A3s P t) H KD:=by
 unfold A3s at h1 d;split at h1
 ·rename_i e e1;split at d
  ·rename_i g e2;have hc:I4 P (.convert s t x)= .pure:=by simp[I4,e1,e2]
   simp only[D1,hc,L2];unfold cvI A3s;rw[e2];cases hx:ev x<;>simp[B0I,e1,e2,hx,A5R e1]
  ·cases d
 ·cases h1
def C3e(d:D)(H:Heap)(KD:D→Heap→Prop):Prop:=match d with
 | .int _ n=>KD (.str (Utf8.encode n)) H
 |_=>False
@[go_sem] theorem C7H(k:IntKind)(n:Int):C3e (.int k n) H KD=KD (.str (Utf8.encode n)) H:=rfl
@[go_sem] theorem C5z(s t:Nat)(x:Operand)(h1:(A3s P s).isSome=true)(d:C6 P t= .str):D1 P ev H KD (.convert s t x)=C3e (ev x) H KD:=by
 have e:P.underlying t=some .string:=by
  unfold C6 at d;split at d<;>simp_all
 unfold A3s at h1;split at h1
 ·rename_i g e1;have hc:I4 P (.convert s t x)= .pure:=by simp[I4,e1,e]
  simp only[D1,hc,L2];unfold C3e;cases hx:ev x<;>simp[B0I,e1,e,hx,A5R e1]
 ·cases h1
def C7I(d:D)(H:Heap)(KD:D→Heap→Prop):Prop:=match d with
 | .str z=>∀b,H b=none→KD (.vec b 1 0 z.size) (H.set b (.vec 1 (E7 z)))
 |_=>False
@[go_sem] theorem C7J(z:ByteArray):C7I (.str z) H KD= ∀b,H b=none→KD (.vec b 1 0 z.size) (H.set b (.vec 1 (E7 z))):=rfl
theorem A7z(s t:Nat)(x:Operand)(h1:C6 P s= .str)(d:A9A P t=true)(h:C7I (ev x) H KD):D1 P ev H KD (.convert s t x):=by
 obtain⟨e,g,he⟩: ∃e,P.underlying t=some (.slice e)∧P.underlying e=some (.int .u8):=by
  unfold A9A at d;split at d
  ·rename_i e g;split at d
   ·rename_i he;exact⟨e,g,he⟩
   ·cases d
  ·cases d
 have hs:P.underlying s=some .string:=by
  unfold C6 at h1;split at h1<;>simp_all
 have hc:I4 P (.convert s t x)= .eff:=by simp[I4,hs,g]
 simp only[D1,hc,A25];cases hx:ev x<;>rw[hx]at h<;>try exact h.elim
 exact⟨h1,by simp[g,he],h⟩
theorem B4z(t:Nat)(x:Operand){b:Nat}(z:ByteArray)(h1:A9A P t=true)(hx:ev x= .vec b 1 0 z.size)(g:0<z.size)(hb:H b=some (.vec 1 (E7 z)))(h:KD (.sl 1 (E7 z)) (H.del b)):D1 P ev H KD (.convert t t x):=by
 obtain⟨e,d,he⟩: ∃e,P.underlying t=some (.slice e)∧P.underlying e=some (.int .u8):=by
  unfold A9A at h1;split at h1
  ·rename_i e d;split at h1
   ·rename_i he;exact⟨e,d,he⟩
   ·cases h1
  ·cases h1
 have hc:I4 P (.convert t t x)= .eff:=by simp[I4,d]
 simp only[D1,hc,A25,hx];exact .inr ⟨trivial,by simp[d,he],b,z,rfl,g,hb,h⟩
def A9B(P:Program)(t:Nat)(x:D)(H:Heap)(KD:D→Heap→Prop):Prop:=match x with
 | .str s=>P.underlying t=some .string∧∀b,H b=none→KD (.box b 0) (H.set b (.iter s 0))
 | .fm kvs=>(A3g P t).isSome=true∧∀b,H b=none→KD (.box b 0) (H.set b (.rng kvs []))
 |_=>False
@[go_sem] theorem C8i(t:Nat)(x:Operand):D1 P ev H KD (.range t x)=A9B P t (ev x) H KD:=by
 unfold A9B;rfl
@[go_sem] theorem C50(t:Nat)(kvs:List (D×D)):A9B P t (.fm kvs) H KD=((A3g P t).isSome=true∧∀b,H b=none→KD (.box b 0) (H.set b (.rng kvs []))):=rfl
@[go_sem] theorem C3f(t:Nat)(s:ByteArray):A9B P t (.str s) H KD=(P.underlying t=some .string∧∀b,H b=none→KD (.box b 0) (H.set b (.iter s 0))):=rfl
def B3j(o:Option Obj)(b:Nat)(H:Heap)(KD:D→Heap→Prop):Prop:=match o with
 |some (.iter s pos)=>(pos<s.size→KD (.tuple [.bool true,.int .i64 pos,.int .i32 (Utf8.decode s pos).1]) (H.set b (.iter s (pos+(Utf8.decode s pos).2))))∧(¬pos<s.size→KD (.tuple [.bool false]) H)
 |_=>False
def B6f(x:D)(H:Heap)(KD:D→Heap→Prop):Prop:=match x with
 | .box b 0=>B3j (H b) b H KD
 |_=>False
@[go_sem] theorem C9g(x:Operand):D1 P ev H KD (.next x true)=B6f (ev x) H KD:=by
 unfold B6f B3j;simp only[D1];cases ev x<;>try rfl
 rename_i b off;cases off<;>rfl
def nxR(kvs:List (D×D))(seen:List Nat)(b:Nat)(H:Heap)(KD:D→Heap→Prop):Prop:=(∀i p,kvs[i]? =some p→i∉seen→KD (.tuple [.bool true,p.1,p.2]) (H.set b (.rng kvs (seen++[i]))))∧((∀i,i<kvs.length→i∈seen)→KD (.tuple [.bool false]) H)
theorem A9C{kvs:List (D×D)}{seen:List Nat}{b:Nat}(h1: ∀i (hi:i<kvs.length),i∉seen→KD (.tuple [.bool true,kvs[i].1,kvs[i].2]) (H.set b (.rng kvs (seen++[i]))))(d:(∀i,i<kvs.length→i∈seen)→KD (.tuple [.bool false]) H):nxR kvs seen b H KD:=
 ⟨fun i p hp hn=>by obtain⟨hi,rfl⟩:=D1j.1 hp;exact h1 i hi hn,d⟩
def B3k(o:Option Obj)(b:Nat)(H:Heap)(KD:D→Heap→Prop):Prop:=match o with
 |some (.rng kvs seen)=>nxR kvs seen b H KD
 |_=>False
def B6g(x:D)(H:Heap)(KD:D→Heap→Prop):Prop:=match x with
 | .box b 0=>B3k (H b) b H KD
 |_=>False
@[go_sem] theorem C8k(x:Operand):D1 P ev H KD (.next x false)=B6g (ev x) H KD:=by
 unfold B6g B3k nxR;simp only[D1];cases ev x<;>try rfl
 rename_i b off;cases off<;>rfl
@[go_sem] theorem C51(b:Nat):B6g (.box b 0) H KD=B3k (H b) b H KD:=rfl
@[go_sem] theorem C52(kvs:List (D×D))(seen:List Nat)(b:Nat):B3k (some (.rng kvs seen)) b H KD=nxR kvs seen b H KD:=rfl
def B9x(o:Option (D×D))(H:Heap)(KD:D→Heap→Prop):Prop:=match o with
 |some p=>KD (.tuple [p.1,p.2]) H
 |none=>False
def B6h(o:Option Nat)(kvs:List (D×D))(H:Heap)(KD:D→Heap→Prop):Prop:=match o with
 |some i=>B9x kvs[i]? H KD
 |none=>False
def B9y(o:Option Obj)(H:Heap)(KD:D→Heap→Prop):Prop:=match o with
 |some (.rng kvs seen)=>B6h seen.getLast? kvs H KD
 |_=>False
def C3g(x:D)(H:Heap)(KD:D→Heap→Prop):Prop:=match x with
 | .box b 0=>B9y (H b) H KD
 |_=>False
theorem B9z(o:Option Nat)(kvs:List (D×D)):(∃i p,o=some i∧kvs[i]? =some p∧KD (.tuple [p.1,p.2]) H)=B6h o kvs H KD:=by
 unfold B6h B9x;cases o with
 |none=>simp
 |some i=>
  cases e:kvs[i]? with
  |none=>simp[e]
  |some p=>exact propext ⟨fun⟨j,q,h1,d,g⟩=>by cases h1;rw[e]at d;cases d;simp only[e];exact g,fun h=>⟨i,p,rfl,e,by simp only[e]at h;exact h⟩⟩
@[go_sem] theorem C8l(x:Operand):D1 P ev H KD (.entry x)=C3g (ev x) H KD:=by
 unfold C3g B9y;simp only[D1,B9z];cases ev x<;>try rfl
@[go_sem] theorem C7K(b:Nat):C3g (.box b 0) H KD=B9y (H b) H KD:=rfl
@[go_sem] theorem C7L(kvs:List (D×D))(seen:List Nat):B9y (some (.rng kvs seen)) H KD=B6h seen.getLast? kvs H KD:=rfl
@[go_sem] theorem C53(i:Nat)(kvs:List (D×D)):B6h (some i) kvs H KD=B9x kvs[i]? H KD:=rfl
@[go_sem] theorem C54(p:D×D):B9x (some p) H KD=KD (.tuple [p.1,p.2]) H:=rfl
@[go_sem] theorem C55(b:Nat):B6f (.box b 0) H KD=B3j (H b) b H KD:=rfl
@[go_sem] theorem C3h(s:ByteArray)(pos b:Nat):B3j (some (.iter s pos)) b H KD=((pos<s.size→KD (.tuple [.bool true,.int .i64 pos,.int .i32 (Utf8.decode s pos).1]) (H.set b (.iter s (pos+(Utf8.decode s pos).2))))∧(¬pos<s.size→KD (.tuple [.bool false]) H)):=rfl
variable {t:Nat}
@[go_sem] theorem A0(b:Nat)(o:Obj):(H.set b o) b=some o:=by simp[Heap.set]
theorem B3{b k:Nat}(o:Obj)(h:k≠b):(H.set b o) k=H k:=by simp[Heap.set,h]
@[go_sem] theorem B90(b:Nat)(o o':Obj):(H.set b o).set b o'=H.set b o':=by
 funext k;unfold Heap.set;split<;>rfl
theorem A5T{b:Nat}{o:Obj}(h:H b=some o):(H.set b o).Le H:=fun k x hx=>by
 unfold Heap.set at hx;split at hx
 ·rename_i e;rw[e,h];exact hx
 ·exact hx
theorem A6{b k:Nat}{o:Obj}:(H.set b o) k=none↔k≠b∧H k=none:=by unfold Heap.set;by_cases h:k=b<;>simp[h]
theorem F1{b k:Nat}(h:k≠b):(H.del b) k=H k:=by simp[Heap.del,h]
theorem A2{b:Nat}{o:Obj}(h:H b=none):H.Le (H.set b o):=fun k x hx=>by
 rw[B3 o (by rintro rfl;rw[h]at hx;cases hx)];exact hx
theorem A3{b k:Nat}(o:Obj)(h:k≠b):(H.set b o) k=H k:=by simp[Heap.set,h]
def B6i:Option (Bool×Nat)→Option (List D)→Option D
 |some s,some cs=>A0F s cs
 |_,_=>none
@[go_sem] theorem C7M(a:D):A0H P t a H=B6i (F8 P t) (A4Z H a):=by
 unfold A0H B6i;cases F8 P t<;>simp;cases A4Z H a<;>rfl
@[go_sem] theorem C3i(s:Bool×Nat)(cs:List D):B6i (some s) (some cs)=A0F s cs:=rfl
def C7N:Option Obj→Nat→Option (List D)
 |some (.box cs _),off=>some (cs.drop off)
 |_,_=>none
def C7O:Option Obj→Nat→Nat→Nat→Option (List D)
 |some (.vec sz' es),sz,i,off=>if sz=sz' then(es[i]?).map (·.drop off)else none
 |_,_,_,_=>none
@[go_sem] theorem C8m(b off:Nat):A4Z H (.box b off)=C7N (H b) off:=by
 simp only[A4Z];generalize H b=o;cases o with
 |none=>rfl
 |some o=>cases o<;>rfl
@[go_sem] theorem C9h(b sz i off:Nat):A4Z H (.el b sz i off)=C7O (H b) sz i off:=by
 simp only[A4Z];generalize H b=o;cases o with
 |none=>rfl
 |some o=>cases o<;>rfl
@[go_sem] theorem C9i(cs:List D):A4Z H (.ro cs)=some cs:=rfl
@[go_sem] theorem C7P(cs:List D)(Z:Option TypeId)(off:Nat):C7N (some (.box cs Z)) off=some (cs.drop off):=rfl
@[go_sem] theorem C7Q(sz sz' i off:Nat)(es:List (List D)):C7O (some (.vec sz' es)) sz i off=if sz=sz' then(es[i]?).map (·.drop off)else none:=rfl
@[go_sem] theorem C7R(n:Nat)(cs:List D):A0F (false,n) cs=cs.head?:=rfl
@[go_sem] theorem C7S(n:Nat)(cs:List D):A0F (true,n) cs=if n≤cs.length then some (.agg (cs.take n))else none:=rfl
def A4n:Option (Bool×Nat)→Option Obj→Nat→Nat→List D→Heap→Option Heap
 |some (_,n),some (.box cs Z),b,off,xs,H=>if n=xs.length∧xs.all D.one=true∧off+xs.length≤cs.length then some (H.set b (.box (Q0 cs off xs) Z))else none
 |_,_,_,_,_,_=>none
def A0N:Option (Bool×Nat)→Option Obj→Nat→Nat→Nat→Nat→List D→Heap→Option Heap
 |some (_,n),some (.vec sz' es),b,sz,i,off,xs,H=>if n=xs.length∧xs.all D.one=true∧sz=sz'∧i<es.length∧off+xs.length≤sz then some (H.set b (.vec sz (es.set i (Q0 (es.getD i []) off xs))))else none
 |_,_,_,_,_,_,_,_=>none
@[go_sem] theorem C56(b off:Nat)(x:D):Z5 P t (.box b off) x H=A4n (F8 P t) (H b) b off x.cells H:=by
 unfold Z5;cases hs:F8 P t with
 |none=>simp[A4n]
 |some s=>
  obtain⟨bb,n⟩:=s;cases hb:H b with
  |none=>simp[A4n,hb]
  |some o=>cases o with
   |box cs=>
    simp only[Option.map_some,D2B,A4n,hb];by_cases h1:n=x.cells.length<;>by_cases d:x.cells.all D.one=true<;>by_cases e:off+x.cells.length≤cs.length<;>simp only[h1,d,e]<;>simp
   |_=>simp[A4n,hb]
@[go_sem] theorem C7T(b sz i off:Nat)(x:D):Z5 P t (.el b sz i off) x H=A0N (F8 P t) (H b) b sz i off x.cells H:=by
 unfold Z5;cases hs:F8 P t with
 |none=>simp[A0N]
 |some s=>
  obtain⟨bb,n⟩:=s;cases hb:H b with
  |none=>simp[A0N,hb]
  |some o=>cases o with
   |box cs=>simp[A0N,hb]
   |ro cs=>simp[A0N,hb]
   |iter=>simp[A0N,hb]
   |map=>simp[A0N,hb]
   |rng=>simp[A0N,hb]
   |buf=>simp[A0N,hb]
   |vec sz' es=>
    simp only[Option.map_some,D2B,A0N,hb];by_cases h1:n=x.cells.length<;>by_cases d:x.cells.all D.one=true<;>simp only[h1,d]<;>simp
@[go_sem] theorem C3j(bb:Bool)(n b off:Nat)(cs xs:List D)(Z:Option TypeId):A4n (some (bb,n)) (some (.box cs Z)) b off xs H=if n=xs.length∧xs.all D.one=true∧off+xs.length≤cs.length then some (H.set b (.box (Q0 cs off xs) Z))else none:=rfl
@[go_sem] theorem C3k(bb:Bool)(n b sz sz' i off:Nat)(es:List (List D))(xs:List D):A0N (some (bb,n)) (some (.vec sz' es)) b sz i off xs H=if n=xs.length∧xs.all D.one=true∧sz=sz'∧i<es.length∧off+xs.length≤sz then some (H.set b (.vec sz (es.set i (Q0 (es.getD i []) off xs))))else none:=rfl
@[go_sem] theorem C57(cs:List D)(i:Nat):Q0 cs i []=cs:=by cases cs<;>rfl
@[go_sem] theorem C3l(cs xs:List D)(i:Nat)(x:D):Q0 cs i (x::xs)=Q0 (cs.set i x) (i+1) xs:=by cases cs<;>rfl
@[go_sem] theorem C58(cs:List D):(D.agg cs).cells=cs:=rfl
@[go_sem] theorem C59(k:IntKind)(n:Int):(D.int k n).cells= [.int k n]:=rfl
@[go_sem] theorem C3m(b:Bool):(D.bool b).cells= [.bool b]:=rfl
@[go_sem] theorem C6A(s:ByteArray):(D.str s).cells= [.str s]:=rfl
@[go_sem] theorem C2J:D.nilsl.cells= [.nilsl]:=rfl
@[go_sem] theorem C7U(sz:Nat)(es:List (List D)):(D.sl sz es).cells= [.sl sz es]:=rfl
@[go_sem] theorem C6B(b sz lo n:Nat):(D.vec b sz lo n).cells= [.vec b sz lo n]:=rfl
@[go_sem] theorem C6C(b:Nat):(D.map b).cells= [.map b]:=rfl
attribute [go_sem] D.one
def A0O(e:Option (Nat×Nat×Nat))(sz:Nat)(o:Option D):Option D:=match e with
 |some (_,sz',_)=>if sz'=sz then o else none
 |none=>none
@[go_sem] theorem C2K(e sz' d sz:Nat)(o:Option D):A0O (some (e,sz',d)) sz o=if sz'=sz then o else none:=rfl
def A3L(x:D):Option (Nat×Nat)→Option D
 |none=>none
 |some (l,h)=>match x with
  | .str s=>some (.str (s.extract l h))
  | .nilsl=>some .nilsl
  | .sl sz es=>some (.sl sz ((es.take h).drop l))
  | .vec b sz lo _=>some (if l=0 then .vec b sz lo h else .vec b sz (lo+l) (h-l))
  |_=>none
def Z8(x:D)(b:Option (Nat×Nat)):Option D:=A3L x b
theorem A2B(x:D)(c:Prop) [Decidable c] (b:Option (Nat×Nat)):Z8 x (if c then b else none)=if c then Z8 x b else none:=by split<;>rfl
theorem C3n(n:Nat)(k:IntKind)(l:Int):boundsD n (some (.int k l)) none=if 0≤l∧l≤n then some (l.toNat,n)else none:=rfl
theorem C3o(n:Nat)(k:IntKind)(h:Int):boundsD n none (some (.int k h))=if 0≤h∧h≤n then some (0,h.toNat)else none:=rfl
theorem C3p(n:Nat)(k d:IntKind)(l h:Int):boundsD n (some (.int k l)) (some (.int d h))=if 0≤l∧l≤h∧h≤n then some (l.toNat,h.toNat)else none:=rfl
theorem A4o(s:ByteArray)(lo d:Option D):U5 P t (.str s) lo d=if C6 P t= .str then Z8 (.str s) (boundsD s.size lo d)else none:=by
 simp only[U5,Z8];generalize boundsD s.size lo d=o;cases o<;>rfl
def B2c(b:R9)(o:Option D):Option D:=if b= .str then o else none
@[go_sem] theorem C7V(o:Option D):B2c .str o=o:=rfl
@[go_sem] theorem B91(s:ByteArray)(k:IntKind)(l:Int):U5 P t (.str s) (some (.int k l)) none=B2c (C6 P t) (if 0≤l∧l≤s.size then some (.str (S ((B s).drop l.toNat)))else none):=by
 rw[A4o];unfold B2c;have:s.extract l.toNat s.size=S ((B s).drop l.toNat):=by rw[A4l,←M8,List.take_length]
 rw[C3n,A2B];split
 ·split
  ·show some (D.str (s.extract l.toNat s.size))=_;rw[this]
  ·rfl
 ·rfl
@[go_sem] theorem B92(s:ByteArray)(k:IntKind)(h:Int):U5 P t (.str s) none (some (.int k h))=B2c (C6 P t) (if 0≤h∧h≤s.size then some (.str (S ((B s).take h.toNat)))else none):=by
 rw[A4o];unfold B2c;have:s.extract 0 h.toNat=S ((B s).take h.toNat):=by rw[A4l,List.drop_zero]
 rw[C3o,A2B];split
 ·split
  ·show some (D.str (s.extract 0 h.toNat))=_;rw[this]
  ·rfl
 ·rfl
@[go_sem] theorem B93(s:ByteArray)(k d:IntKind)(l h:Int):U5 P t (.str s) (some (.int k l)) (some (.int d h))=B2c (C6 P t) (if 0≤l∧l≤h∧h≤s.size then some (.str (S (((B s).take h.toNat).drop l.toNat)))else none):=by
 rw[A4o];unfold B2c;rw[C3p,A2B];split
 ·split
  ·show some (D.str (s.extract l.toNat h.toNat))=_;rw[A4l]
  ·rfl
 ·rfl
@[go_sem] theorem C6D(lo d:Option D):U5 P t .nilsl lo d=if(G7 P t).isSome then Z8 .nilsl (boundsD 0 lo d)else none:=by
 simp only[U5,Z8];generalize boundsD 0 lo d=o;cases o<;>rfl
@[go_sem] theorem C7W(sz:Nat)(es:List (List D))(lo d:Option D):U5 P t (.sl sz es) lo d=A0O (G7 P t) sz (Z8 (.sl sz es) (boundsD es.length lo d)):=by
 simp only[U5,Z8];generalize boundsD es.length lo d=o;cases G7 P t with
 |none=>simp[A0O]
 |some e=>cases o<;>simp[A3L,A0O]
@[go_sem] theorem C6E(b sz l n:Nat)(lo d:Option D):U5 P t (.vec b sz l n) lo d=A0O (G7 P t) sz (Z8 (.vec b sz l n) (boundsD n lo d)):=by
 simp only[U5,Z8];generalize boundsD n lo d=o;cases G7 P t with
 |none=>simp[A0O]
 |some e=>cases o<;>simp[A3L,A0O]
@[go_sem] theorem C2L(x:D)(l h:Nat):Z8 x (some (l,h))=A3L x (some (l,h)):=rfl
@[go_sem] theorem C3q(x:D)(c:Prop) [Decidable c] (b:Option (Nat×Nat)):Z8 x (if c then b else none)=if c then Z8 x b else none:=by split<;>rfl
@[go_sem] theorem C3r(l h:Nat):A3L .nilsl (some (l,h))=some .nilsl:=rfl
@[go_sem] theorem C6F(sz l h:Nat)(es:List (List D)):A3L (.sl sz es) (some (l,h))=some (.sl sz ((es.take h).drop l)):=rfl
@[go_sem] theorem C3s(b sz lo n l h:Nat):A3L (.vec b sz lo n) (some (l,h))=some (if l=0 then .vec b sz lo h else .vec b sz (lo+l) (h-l)):=rfl
@[go_sem] theorem D0v(n:Nat)(k:IntKind)(l:Int):boundsD n (some (.int k l)) none=if 0≤l∧l≤n then some (l.toNat,n)else none:=rfl
@[go_sem] theorem D0w(n:Nat)(k:IntKind)(h:Int):boundsD n none (some (.int k h))=if 0≤h∧h≤n then some (0,h.toNat)else none:=rfl
@[go_sem] theorem C8n(s:ByteArray):A6P P t (.str s)=if C6 P t= .str then some (.int .i64 s.size)else none:=rfl
@[go_sem] theorem C8o:A6P P t .nilsl=if C6 P t= .slice then some (.int .i64 0)else none:=rfl
@[go_sem] theorem C9j(sz:Nat)(es:List (List D)):A6P P t (.sl sz es)=if C6 P t= .slice then some (.int .i64 es.length)else none:=rfl
@[go_sem] theorem C8p(b sz lo n:Nat):A6P P t (.vec b sz lo n)=if C6 P t= .slice then some (.int .i64 n)else none:=rfl
@[go_sem] theorem C9k(s:ByteArray)(k:IntKind)(n:Int):A6Q P t (.str s) (.int k n)=if C6 P t= .str∧0≤n∧n<s.size then some (.int .u8 (Q4 s n))else none:=rfl
@[go_sem] theorem D0x(sz:Nat)(es:List (List D))(k:IntKind)(n:Int):Q9 P t (.sl sz es) (.int k n)=A0O (G7 P t) sz (if 0≤n∧n<es.length then some (.ro (es.getD n.toNat []))else none):=by
 unfold Q9 A0O;cases G7 P t with
 |none=>simp
 |some e=>obtain⟨a,b,c⟩:=e;by_cases h:b=sz<;>simp[h]
@[go_sem] theorem C9l(b sz l m:Nat)(k:IntKind)(n:Int):Q9 P t (.vec b sz l m) (.int k n)=A0O (G7 P t) sz (if 0≤n∧n<m then some (.el b sz (l+n.toNat) 0)else none):=by
 unfold Q9 A0O;cases G7 P t with
 |none=>simp
 |some e=>obtain⟨a,d,c⟩:=e;by_cases h:d=sz<;>simp[h]
def A6q(f:Option (Nat×Bool×Nat))(x:D):Option D:=match f with
 |some (o,_,n)=>if n=0 then none else match x with
  | .box b off=>some (.box b (off+o))
  | .el b sz i off=>some (.el b sz i (off+o))
  | .ro cs=>some (.ro (cs.drop o))
  |_=>none
 |none=>none
def A9D(l:Option (List (Nat×Bool×Nat)))(f:Nat):Option (Nat×Bool×Nat):=match l with
 |some l=>l[f]?
 |none=>none
@[go_sem] theorem B94(l:List (Nat×Bool×Nat))(f:Nat):A9D (some l) f=l[f]? :=rfl
@[go_sem] theorem C9m(x:D)(f:Nat):Z3 P t x f=A6q (A9D (M0 P t) f) x:=by
 unfold Z3 A6q A9D;cases M0 P t<;>rfl
@[go_sem] theorem C3t(o n b off:Nat)(bb:Bool):A6q (some (o,bb,n)) (.box b off)=if n=0 then none else some (.box b (off+o)):=rfl
@[go_sem] theorem C6G(o n b sz i off:Nat)(bb:Bool):A6q (some (o,bb,n)) (.el b sz i off)=if n=0 then none else some (.el b sz i (off+o)):=rfl
@[go_sem] theorem C6H(o n:Nat)(bb:Bool)(cs:List D):A6q (some (o,bb,n)) (.ro cs)=if n=0 then none else some (.ro (cs.drop o)):=rfl
@[go_sem] theorem C7X(d:List ResultVar)(Q:D→Heap→Prop):A83 P d Q .ret E H=B9r (A3J P d E H) Q H:=rfl
@[go_sem] theorem C2M(d:List ResultVar)(Q:D→Heap→Prop):A83 P d Q .normal E H=B9r (A3J P d E H) Q H:=rfl
@[go_sem] theorem C6I(d:D)(Q:D→Heap→Prop):B9r (some d) Q H=Fin Q d H:=by simp[B9r]
@[go_sem] theorem C6J:A3J P [] E H=some (.tuple []):=rfl
@[go_sem] theorem C7Y(t:Nat):A3J P [.tmp t] E H=some (E.get t):=rfl
def B2d(P:Program)(rs:List ResultVar)(E:Env)(H:Heap):Option (List D):=rs.mapM (A0f P E H)
def C2N:Option D→Option (List D)→Option (List D)
 |some d,some l=>some (d::l)
 |_,_=>none
@[go_sem] theorem C3u(d:D)(l:List D):C2N (some d) (some l)=some (d::l):=rfl
@[go_sem] theorem C7Z:B2d P [] E H=some []:=rfl
@[go_sem] theorem A70(r:ResultVar)(d:List ResultVar):B2d P (r::d) E H=C2N (A0f P E H r) (B2d P d E H):=by
 simp only[B2d,List.mapM_cons,Option.bind_eq_bind,Option.pure_def];cases A0f P E H r<;>cases List.mapM (A0f P E H) d<;>rfl
@[go_sem] theorem C6K(r d:ResultVar)(e:List ResultVar):A3J P (r::d::e) E H=(B2d P (r::d::e) E H).map .tuple:=by
 unfold A3J;show Option.map _ (B2d P (r::d::e) E H)=_;rw[A70,A70];cases A0f P E H r<;>cases A0f P E H d<;>cases B2d P e E H<;>rfl
@[go_sem] theorem C6L(t:Nat):A0f P E H (.tmp t)=some (E.get t):=rfl
@[go_sem] theorem C3v(a t:Nat):A0f P E H (.cell a t)=A0H P t (E.get a) H:=rfl
@[go_sem] theorem C6M(a t:Nat):A3J P [.cell a t] E H=A0H P t (E.get a) H:=by
 simp[A3J,A0f,List.mapM_cons];cases A0H P t (E.get a) H<;>rfl
end
theorem A4{x:Int}(h1: -9223372036854775808≤x)(d:x≤9223372036854775807):IntKind.i64.wrap x=x:=IntWalk.i64_in _ (by omega)
def Sub:Env→Env→Prop
 | [],_=>True
 |(i,d)::r,E=>E.get i=d∧Sub r E
def Nx{ι :Type}(Ei: ι →Env)(Hi: ι →Heap)(Inv: ι →Prop)(μ : ι →Nat)(x: ι):Env→Heap→Prop:=fun E' H'=>∃y,Inv y∧ μ y< μ x∧A1b (Ei y) (Hi y) E' H'
theorem Sub.all: ∀{E0 E:Env},Sub E0 E→∀p∈E0,E.get p.1=p.2
 | [],_,_,_,hp=>by simp at hp
 |(i,d)::r,E,h,p,hp=>by
  rcases D11.1 hp with rfl|hp
  ·exact h.1
  ·exact Sub.all h.2 p hp
theorem C3w{P:Program}{Z:List (Nat×Rc)}{c:Code}{Q:AX→Env→Heap→Prop}{E:Env}{H:Heap}{ι :Type}(e: ι →Env)(g: ι →Heap)(d: ι →Prop)(μ : ι →Nat)(h: ι)(p:d h)(hw:A1b (e h) (g h) E H)
  (step: ∀x,d x→wp P Z c (A6n Q (Nx e g d μ x)) (e x) (g x)):B6S P Z c Q E H:=by
 refine⟨fun n E H=>∃x,d x∧ μ x=n∧E=e x∧H=g x,⟨μ h,e h,g h,hw,h,p,rfl,rfl,rfl⟩,?_⟩;rintro n q r ⟨x,hx,rfl,rfl,rfl⟩;have i:(fun o H'=>∃m E0 H0,m< μ x∧A1b E0 H0 o H'∧∃x,d x∧ μ x=m∧E0=e x∧H0=g x)=Nx e g d μ x:=by
  funext o H'
  apply propext;constructor
  ·rintro⟨m,E0,H0,hm,hw,y,j,rfl,rfl,rfl⟩;exact⟨y,j,hm,hw⟩
  ·rintro⟨y,j,hm,hs⟩;exact⟨μ y,e y,g y,hm,hs,y,j,rfl,rfl,rfl⟩
 have:=step x hx;rw[i];exact this
theorem C3x{P:Program}{Z:List (Nat×Rc)}{c:Code}{Q:AX→Env→Heap→Prop}{E:Env}{H:Heap}{ι :Type}(e: ι →Env)(g: ι →Heap)(d: ι →Prop)(μ : ι →Nat)(h: ι)(i:d h)(j:Sub (e h) E)(m:(g h).Le H)
  (step: ∀x,d x→wp P Z c (A6n Q (Nx e g d μ x)) (e x) (g x)):B6S P Z c Q E H:=C3w e g d μ h i (A82 j.all m) step
attribute [go_sem] Sub
theorem F2{P:Program}{K:Env→Heap→Prop}{E:Env}{H:Heap}{d:List (Option Nat)}{ops:List Oper}(E0:Env)(H0:Heap)(e:Sub E0 E)(g:H0.Le H)(h:wpOps P d K ops E0 H0):A5S P d ops K E H (some .wk):=⟨E0,H0,A82 e.all g,h⟩
theorem I6{C T G:Prop}(h:(C→T)→G)(t:C→T):G:=h t
def A3M(E:Env):List Nat→Env
 | []=>[]
 |t::ts=>(t,E.get t)::A3M E ts
def cat:Env→Env→Env
 | [],F=>F
 |p::E,F=>p::cat E F
@[go_sem] theorem C3y(E:Env):A3M E []= []:=rfl
@[go_sem] theorem C2P(E:Env)(t:Nat)(d:List Nat):A3M E (t::d)=(t,E.get t)::A3M E d:=rfl
@[go_sem] theorem C8q(F:Env):cat [] F=F:=rfl
@[go_sem] theorem C7a(p:Nat×D)(E F:Env):cat (p::E) F=p::cat E F:=rfl
theorem B3l: ∀{A B E:Env},Sub A E→Sub B E→Sub (cat A B) E
 | [],_,_,_,h=>h
 |_::_,_,_,h1,d=>⟨h1.1,B3l h1.2 d⟩
theorem A6r(E:Env): ∀d,Sub (A3M E d) E
 | []=>trivial
 |_::d=>⟨rfl,A6r E d⟩
theorem C2{P:Program}{Z:List (Nat×Rc)}{c:Code}{Q:AX→Env→Heap→Prop}{E:Env}{H:Heap}{ι :Type}(i:List Nat)(e: ι →Env)(g: ι →Heap)(d: ι →Prop)(μ : ι →Nat)(h: ι)(j:d h)(m:Sub (e h) E)(o:(g h).Le H)
  (step: ∀Ec,Ec=A3M E i→∀x,d x→wp P Z c (A6n Q (Nx (fun x=>cat Ec (e x)) g d μ x)) (cat Ec (e x)) (g x)):B6S P Z c Q E H:=C3x (fun x=>cat (A3M E i) (e x)) g d μ h j (B3l (A6r E i) m) o (step _ rfl)
theorem C1{ι :Type}{e: ι →Env}{g: ι →Heap}{d: ι →Prop}{μ : ι →Nat}{x: ι}{h:Env}{H':Heap}(y: ι)(h1:d y)(i: μ y< μ x)(j:Sub (e y) h)(m:(g y).Le H'):Nx e g d μ x h H':=⟨y,h1,i,A82 j.all m⟩
theorem B6j{ι :Type}{e: ι →Env}{g: ι →Heap}{d: ι →Prop}{μ : ι →Nat}{x: ι}{h:Env}{H':Heap}(y: ι)(h1:d y)(i: μ y< μ x)(j:A1b (e y) (g y) h H'):Nx e g d μ x h H':=⟨y,h1,i,j⟩
def I3(l:List UInt8)(k:Nat):Int:=((l.getD k 0).toNat:Int)
theorem A3t(s:ByteArray)(k:Nat):Q4 s k=I3 (B s) k:=rfl
@[go_sem] theorem D0y(l:List UInt8)(i:Int):Q4 (S l) i=I3 l i.toNat:=by
 show (((S l).data.toList.getD i.toNat 0).toNat:Int)=_;rw[show (S l).data.toList=l from Q7 l];rfl
theorem A3u(s:ByteArray):Q4 s 0=I3 (B s) 0:=rfl
theorem A71(l:List UInt8)(k:Nat):0≤I3 l k∧I3 l k≤255:=⟨by unfold I3;omega,by unfold I3;have:=(l.getD k 0).toNat_lt;omega⟩
attribute [irreducible] Fin B6S Nx
attribute [go_sem] W9 D2q List.map_nil Option.map_some Option.map_none D2l D2O D2k D2x D2y Bool.not_eq_true' Bool.not_eq_false' D1v decide_eq_false_iff_not true_and and_true List.drop_succ_cons List.drop_zero List.head?_cons List.take_succ_cons List.take_zero D1e D1g List.set_cons_zero List.set_cons_succ D2c List.all_nil Bool.and_true Bool.true_and List.getElem?_cons_zero D15 Nat.zero_add Nat.add_zero Int.toNat_natCast forall_const implies_true Option.isSome_some ne_eq not_true_eq_false not_false_eq_true D1t beq_iff_eq bne_iff_ne beq_eq_false_iff_ne Nat.le_add_left D2p beq_self_eq_true if_true if_false D17 D2H Int.toNat_natCast_add_one Option.map_map List.size_toArray D10 false_imp_iff true_imp_iff D1f D2Z D2I decide_true decide_false List.replicate_succ List.replicate_zero D18 D19 List.append_eq Nat.min_self
end Go.Av
namespace Go.Av
open Go.RowKit
theorem A2j{H:Heap}{w w':World}(h:Below w.heap.size w w'):Ext H w w':=
 ⟨h.os,h.tape,h.output,h.size,fun k hk _=>h.block k hk,fun k hk=>by unfold World.shape?;rw[h.block k hk]⟩
theorem A4p{H:Heap}{w w':World}(hs:Sat H w)(h:Below w.heap.size w w'):Sat H w':=fun b o hb=>
 (hs b o hb).mono (A2j h) (D24 _ _) (h.block b (hs.lt hb))
theorem H7{P:Program}{f:Nat}{args:List D}{H:Heap}{Q:D→Heap→Prop}{r:D}(hb:A13 P f=true)
  (h: ∀w (vs:Array Value),args.length=vs.size→(∀(i:Nat) d,args[i]? =some d→R w H d (vs.getD i Go.undef))→Sat H w→Calls P f vs w fun e w'=>∃v,e= .returned v∧Below w.heap.size w w'∧R w' H r v)
  (hq:Q r H):ACalls P f args H Q:=
 ⟨hb,fun w vs h1 m g=>(h w vs h1 m g).mono fun e w' ⟨v,he,j,o⟩=>⟨v,he,r,H,o,A4p g j,A2j j,D24 _ _,hq⟩⟩
theorem A2C{w:World}{H:Heap}{d:D}{vs:Array Value}(hl: [d].length=vs.size)(hr: ∀(i:Nat) d',[d][i]? =some d'→R w H d' (vs.getD i Go.undef)): ∃a,vs= #[a]∧R w H d a:=by
 obtain⟨l⟩:=vs
 match l,hl with
 | [a],_=>exact⟨a,rfl,by simpa using hr 0 d rfl⟩
theorem m0{w:World}{H:Heap}{d e:D}{vs:Array Value}(hl: [d,e].length=vs.size)(hr: ∀(i:Nat) d',[d,e][i]? =some d'→R w H d' (vs.getD i Go.undef)): ∃a b,vs= #[a,b]∧R w H d a∧R w H e b:=by
 obtain⟨l⟩:=vs
 match l,hl with
 | [a,b],_=>exact⟨a,b,rfl,by simpa using hr 0 d rfl,by simpa using hr 1 e rfl⟩
def B0q(k:IntKind)(zs:List Int):List D:=zs.map (D.int k)
theorem B6k{P:Program}{w:World}{H:Heap}{name:String}{g:Nat}{k:IntKind}{j:List Int}(o:P.globalNamed name=some g)(hs:Sat H w)(h:H g=some (.ro (B0q k j))):Lib.TabIs P w name k j:=by
 obtain⟨c,T,r,h1,p,q⟩:=hs g _ h;unfold Lib.TabIs World.var?;rw[o];simp only[D13,h1,D2B];apply Array.ext
 ·simpa [B0q]using p
 ·intro i m d;simp at d;have:=(q i (.int k j[i]) (by simp[B0q,d])).2;have e:=this.int_inv;simp[m]at e;simp[e]
theorem B2e(w:World)(k:Nat)(os:Array Go.Obj):Below w.heap.size w (Sort.grow (w.drewN k) os):=
 ⟨rfl,rfl,rfl,by simp[Sort.grow,World.drewN],fun i d=>by
  have:(w.drewN k).heap=w.heap:=rfl;simp only[Sort.grow,this];rw[Array.getElem?_append,if_pos d]⟩
theorem B0r(w:World)(e:TypeId)(s:ByteArray):Below w.heap.size w (Lib.bytesWorld w e s):=
 ⟨rfl,rfl,rfl,by rw[Lib.bytesWorld_size];omega,fun i d=>Lib.bytesWorld_at_old w e s i d⟩
end Go.Av
namespace Go.Proofs.YtibphjonmikciaaGreatDoor
open Go Go.Av Go.RowKit
abbrev D8:=ACalls Tryz.prog
def L6(H:Heap)(b:Nat):Option Nat→List UInt8→Heap
 |none,_=>H.set b (.box [.nilp,.nilsl] (some 97))
 |some c,bs=>(H.set b (.box [.box b 0,.vec c 1 0 bs.length] (some 97))).set c (.buf 5 bs)
structure BldOk(H:Heap)(b:Nat)(st:Option Nat)(bs:List UInt8):Prop where
 hb:H b=none
 hn:st=none→bs= []
 hs: ∀c,st=some c→c≠b∧H c=none∧bs≠[]
theorem U9{H:Heap}{b k:Nat}{st:Option Nat}{bs:List UInt8}(h1:k≠b)(d:st≠some k):L6 H b st bs k=H k:=by
 cases st with
 |none=>simp[L6,Heap.set,h1]
 |some c=>
  have:k≠c:=fun e=>d (by rw[e]);simp[L6,Heap.set,h1,this]
theorem B6l{H:Heap}{b:Nat}{st:Option Nat}{bs:List UInt8}(h:BldOk H b st bs): ∃cs,L6 H b st bs b=some (.box cs (some 97)):=by
 cases st with
 |none=>exact⟨_,by simp[L6,Heap.set];rfl⟩
 |some c=>
  have d:b≠c:=Ne.symm (h.hs c rfl).1;exact⟨[.box b 0,.vec c 1 0 bs.length],by simp only[L6,Heap.set,if_neg d,if_true]⟩
theorem A2k{H:Heap}{b k:Nat}{st:Option Nat}{bs:List UInt8}(h:BldOk H b st bs)(hk:(L6 H b st bs).held k=false):k≠b∧st≠some k:=by
 constructor
 ·rintro rfl;obtain⟨cs,e⟩:=B6l h;rw[J6 e]at hk;cases hk
 ·rintro rfl;have e:L6 H b (some k) bs k=some (.buf 5 bs):=by simp[L6,Heap.set]
  rw[J6 e]at hk;cases hk
theorem B3m{H:Heap}{b:Nat}{st:Option Nat}{bs:List UInt8}{w:World}(hs:Sat (L6 H b st bs) w)(h:BldOk H b st bs):
  ∃p v r,w.heap[b]? =some (.cells #[p,v] 97 r)∧(∀j,j<2→¬(r.1≤j∧j<r.2))∧(p= .pointer none∨p= .pointer (some ⟨b,0,none⟩))∧
   w.ownsRow 0 5 1 v bs.length (bs.map fun x=>Value.int .u8 x.toNat)∧v.ownBlock=st:=by
 have g: ∀{cs:List D} {c:Array Value},cs.length=2→RowR w (L6 H b st bs) cs c→∃x y,c= #[x,y]:=fun {cs c} q hr=>by
  have d:=hr.len;obtain⟨l⟩:=c;simp only[List.size_toArray]at d
  match l,(by omega:l.length=2)with
  | [x,y],_=>exact⟨x,y,rfl⟩
 cases st with
 |none=>
  have U:bs= []:=h.hn rfl;subst U;obtain⟨c,T,lo,u,h1,q,d,z⟩:=box_inv (hs b (.box [.nilp,.nilsl] (some 97)) (by simp[L6,Heap.set]));have A:=z _ rfl;subst A;obtain⟨x,y,rfl⟩:=g rfl d;have i:=d.rel 0 _ rfl;have e:=d.rel 1 _ rfl;simp at i e;cases i;cases e;exact⟨_,_,(lo,u),h1,fun j C=>q j (by simpa using C),.inl rfl,World.ownsRow_nil w 0 _ 1,rfl⟩
 |some c=>
  obtain⟨G,V,I⟩:=h.hs c rfl;obtain⟨Y,T,lo,u,h1,q,d,z⟩:=box_inv (hs b (.box [.box b 0,.vec c 1 0 bs.length] (some 97)) (by have J:b≠c:=Ne.symm G;simp only[L6,Heap.set,if_neg J,if_true]));have A:=z _ rfl;subst A;obtain⟨x,y,rfl⟩:=g rfl d;have i:=d.rel 0 _ rfl;have e:=d.rel 1 _ rfl;simp at i e;obtain⟨o,O,g2,g3,W⟩:=hs c (.buf 5 bs) (by simp[L6,Heap.set]);cases i;have L:bs.length≠0:=by simpa using I
  generalize hn:bs.length=n at e;cases e with
  |vec0=>exact absurd hn L
  |vec _ _ _ _ cap T m hb X hsz hcap=>
   have M:w.shape? c=some (5,o.size):=by simp[World.shape?,O]
   rw[M]at hb;cases hb;subst hn;refine⟨_,_,(lo,u),h1,fun j C=>q j (by simpa using C),.inr rfl,⟨by simp,.inr ⟨c,cap,o,by simp,D1u _,O,hcap,?_,by omega,by simpa using W⟩⟩,rfl⟩;unfold maxLen;omega
set_option maxHeartbeats 1000000 in
theorem O5{Q}(b:Nat)(st:Option Nat)(bs:List UInt8)(s:ByteArray)(H:Heap)(u:BldOk H b st bs)(a9:s.size≠0)(hlen:bs.length+s.size≤140737488355328)
  (h: ∀c',BldOk H b (some c') (bs++B s)→Q (.tuple [.int .i64 s.size,.nilif]) (L6 H b (some c') (bs++B s))):D8 114 [.box b 0,.str s] (L6 H b st bs) Q:=by
 refine⟨by kernel_rfl,fun w vs hl hr hs=>?_⟩;obtain⟨a,x,rfl,ha,hx⟩:=m0 hl hr;rw[hx.str_inv];have ea:a= .pointer (some ⟨b,0,none⟩):=by cases ha;rfl
 rw[ea];obtain⟨p,v,fr,W,hf,hp,O,hst⟩:=B3m hs u;have b0:v.ownBlock≠some b:=by
  rw[hst];exact fun e=>(u.hs b e).1 rfl
 have X:(bs.map fun x=>Value.int .u8 x.toNat).length=bs.length:=by simp
 refine(A5p b p v (bs.map fun x=>Value.int .u8 x.toNat) s fr w hp W hf (by rw[X];exact O) b0 (by rw[X];exact hlen)).mono ?_;rintro e w' ⟨rfl,w1,T,v',k1,k2,k3,k4,k5,k6,k7,k8,rfl⟩;rw[X]at k5 k7;have c1:b<w.heap.size:=(D1y.1 W).1;have b1:s≠ByteArray.empty:=by rintro rfl;exact a9 rfl
 obtain⟨g,m,A,rfl,_,hg,b2,b3,b4,a0⟩: ∃g cap y,v'= .slice (some ⟨g,0,none⟩) (bs.length+s.size) cap∧0≤g∧T.heap[g]? =some (.cells y 5 (0,0))∧bs.length+s.size≤cap∧cap≤maxLen∧y.size=cap*1∧y.toList.take ((bs.length+s.size)*1)=(bs.map fun x=>Value.int .u8 x.toNat)++Lib.strCells s:=by
  rcases k5.2 with⟨hv,_⟩|hv
  ·exact absurd (k6.1 hv).2 b1
  ·exact hv
 --what is as_ it was
 have C: ∀k,k<w.heap.size→k≠b→st≠some k→(T.setCell ⟨b,1,none⟩ (.slice (some ⟨g,0,none⟩) (bs.length+s.size) m)).heap[k]? =w.heap[k]? :=fun k hk q z=>by
  rw[Below.heap_setCell _ _ _ k q,k4.block k (by omega) (by rw[hst];exact fun e=>z e.symm),k2.block k hk (fun e=>q (Option.some.inj e))]
 have Y:st=some g∨w.heap.size≤g:=by
  rcases k7 with⟨g',cap,e1,e2⟩|⟨_,e2⟩
  ·cases e2
   left
   rw[←hst,e1];rfl
  ·right
   have:=e2 g rfl;omega
 have J:g≠b:=by
  rintro rfl;rcases Y with e|e
  ·exact(u.hs g e).1 rfl
  ·omega
 have b6:H g=none:=by
  rcases Y with e|e
  ·exact(u.hs g e).2.1
  ·have:=hs.fresh e;rw[U9 J (fun e'=>by
    obtain⟨x,hx⟩: ∃x,L6 H b st bs g=some x:=⟨_,by rw[e'];simp[L6,Heap.set];rfl⟩
    rw[this]at hx;cases hx)]at this
   exact this
 have c2:B s=s.data.toList:=rfl;have L:(bs++B s).length=bs.length+s.size:=by rw[D1f,M8]
 have a4:BldOk H b (some g) (bs++B s):=⟨u.hb,(fun e=>by cases e),fun c e=>by
  cases e;exact⟨J,b6,fun e=>by
   have h3:=congrArg List.length e;rw[L,D1g]at h3;omega⟩⟩
 have U:(T.setCell ⟨b,1,none⟩ (.slice (some ⟨g,0,none⟩) (bs.length+s.size) m)).heap[b]? =some (.cells #[.pointer (some ⟨b,0,none⟩),.slice (some ⟨g,0,none⟩) (bs.length+s.size) m] 97 fr):=by
  rw[Lib.heap_setCell_same k8];rfl
 have G:(T.setCell ⟨b,1,none⟩ (.slice (some ⟨g,0,none⟩) (bs.length+s.size) m)).heap[g]? =some (.cells A 5 (0,0)):=by
  rw[Below.heap_setCell _ _ _ g J];exact hg
 have V:Ext (L6 H b st bs) w (T.setCell ⟨b,1,none⟩ (.slice (some ⟨g,0,none⟩) (bs.length+s.size) m)):=by
  refine⟨k4.os.trans k2.os,k4.tape.trans k2.tape,k4.output.trans k2.output,by have:=k4.size;have:=k2.size;simp[World.setCell];omega,fun k hk hn=>C k hk (A2k u hn).1 (A2k u hn).2,fun k hk=>?_⟩;by_cases q:k=b
  ·subst q;simp[World.shape?,U,W]
  ·by_cases z:st=some k
   ·
    obtain⟨c,cap,y,e1,_,e2,e3,e4,e5,e6⟩: ∃g cap y,v= .slice (some ⟨g,0,none⟩) bs.length cap∧0≤g∧w.heap[g]? =some (.cells y 5 (0,0))∧bs.length≤cap∧cap≤maxLen∧y.size=cap*1∧y.toList.take (bs.length*1)=bs.map fun x=>Value.int .u8 x.toNat:=by
     rcases O.2 with⟨hv,_⟩|hv
     ·rw[hv,z]at hst;cases hst
     ·exact hv
    have b7:c=k:=by rw[e1,z]at hst;simpa [Value.ownBlock]using hst
    subst b7;rcases k7 with⟨g',c0,f1,f2⟩|⟨f1,f2⟩
    ·rw[e1]at f1;cases f1;cases f2;simp[World.shape?,G,e2,b4,e5]
    ·have h1:(T.setCell ⟨b,1,none⟩ (.slice (some ⟨g,0,none⟩) (bs.length+s.size) m)).heap[c]? =w.heap[c]? :=by
      rw[Below.heap_setCell _ _ _ c q,f1 c (by omega),k2.block c hk (fun e=>q (Option.some.inj e))]
     unfold World.shape?;rw[h1]
   ·unfold World.shape?;rw[C k hk q z]
 have I:From w (L6 H b st bs) (L6 H b (some g) (bs++B s)):=fun k hk hn=>by
  obtain⟨n1,n2⟩:=A2k u hn;have M:k≠g:=by
   rintro rfl;rcases Y with e|e
   ·exact n2 e
   ·omega
  rw[A0b (H:=H) (U9 n1 (fun e=>M (Option.some.inj e).symm))];rwa [A0b (H:=H) (U9 n1 n2)]at hn
 have a5:A.toList.take (bs++B s).length=(bs++B s).map fun x=>Value.int .u8 x.toNat:=by
  rw[L];have:(bs.length+s.size)*1=bs.length+s.size:=by omega
  rw[this]at a0;rw[a0,D2Z];rfl
 have a6:Sat (L6 H b (some g) (bs++B s)) (T.setCell ⟨b,1,none⟩ (.slice (some ⟨g,0,none⟩) (bs.length+s.size) m)):=by
  intro k o ho;by_cases M:k=g
  ·subst M;have:o= .buf 5 (bs++B s):=by
    have e:L6 H b (some k) (bs++B s) k=some (.buf 5 (bs++B s)):=by simp[L6,Heap.set]
    rw[e]at ho;exact(Option.some.inj ho).symm
   subst this;exact⟨A,G,by rw[L];omega,by unfold maxLen at b3;omega,a5⟩
  ·by_cases q:k=b
   ·subst q;have:o= .box [.box k 0,.vec g 1 0 (bs++B s).length] (some 97):=by
     have e:L6 H k (some g) (bs++B s) k=some (.box [.box k 0,.vec g 1 0 (bs++B s).length] (some 97)):=by have b8:k≠g:=Ne.symm J;simp only[L6,Heap.set,if_neg b8,if_true]
     rw[e]at ho;exact(Option.some.inj ho).symm
    subst this;obtain⟨lo,hi⟩:=fr;refine A4b (fun t e=>by cases e;rfl) U (fun j hj=>hf j (by simpa using hj)) ⟨rfl,fun i d r=>?_,fun i d r=>?_⟩
    ·match i,r with
     |0,r=>cases r;rfl
     |1,r=>cases r;rfl
     |i+2,r=>simp at r
    ·match i,r with
     |0,r=>cases r;exact .box k 0
     |1,r=>
      cases r;rw[L];have hv:=R.vec (w:=T.setCell ⟨k,1,none⟩ (.slice (some ⟨g,0,none⟩) (bs.length+s.size) m)) (H:=L6 H k (some g) (bs++B s)) g 1 0 (bs.length+s.size) m 5 A.size (by simp[World.shape?,G]) (by omega) (by omega) b2;simpa using hv
     |i+2,r=>simp at r
   ·have e1:L6 H b (some g) (bs++B s) k=H k:=U9 q (fun e=>M (Option.some.inj e).symm);rw[e1]at ho;have z:st≠some k:=fun e=>by rw[(u.hs k e).2.1]at ho;cases ho
    have e2:L6 H b st bs k=H k:=U9 q z;have b9:=hs k o (by rw[e2];exact ho);exact b9.mono V I (C k (hs.lt (by rw[e2];exact ho)) q z)
 refine⟨_,rfl,.tuple [.int .i64 s.size,.nilif],_,.tuple _ _ rfl (fun i d r=>?_),a6,V,I,h g a4⟩
 match i,r with
 |0,r=>cases r;exact .int _ _
 |1,r=>cases r;exact .nilif
 |i+2,r=>simp at r
theorem A4q{w:World}{g n k:Nat}(h:k≠g):(w.freeze ⟨g,0,none⟩ n).heap[k]? =w.heap[k]? :=by
 unfold World.freeze;split
 ·rfl
 ·simp[Array.getElem?_modify,Ne.symm h]
theorem B0s(w:World)(a:Addr)(n:Nat):(w.freeze a n).heap.size=w.heap.size:=by
 unfold World.freeze;split
 ·rfl
 ·exact Array.size_modify
theorem A9E(w:World)(a:Addr)(n k:Nat):(w.freeze a n).shape? k=w.shape? k:=by
 unfold World.freeze;split
 ·rfl
 ·unfold World.shape?;simp only[Array.getElem?_modify];by_cases h:a.block=k
  ·rw[if_pos h];cases hk:w.heap[k]? with
   |none=>rfl
   |some o=>cases o<;>rfl
  ·rw[if_neg h]
theorem B0t{Q}(b c:Nat)(bs:List UInt8)(H:Heap)(j:BldOk H b (some c) bs)(h:Q (.str (S bs)) H):D8 69 [.box b 0] (L6 H b (some c) bs) Q:=by
 refine⟨by kernel_rfl,fun w vs hl hr hs=>?_⟩;obtain⟨a,rfl,G⟩:=A2C hl hr;have I:a= .pointer (some ⟨b,0,none⟩):=by cases G;rfl
 rw[I];obtain⟨p,v,J,z,T,hp,r,hst⟩:=B3m hs j;obtain⟨L,u,A⟩:=j.hs c rfl;obtain⟨g,cap,d,rfl,_,e2,e3,M,e5,O⟩: ∃g cap d,v= .slice (some ⟨g,0,none⟩) bs.length cap∧0≤g∧w.heap[g]? =some (.cells d 5 (0,0))∧bs.length≤cap∧cap≤maxLen∧d.size=cap*1∧d.toList.take (bs.length*1)=bs.map fun x=>Value.int .u8 x.toNat:=by
  rcases r.2 with⟨hv,_⟩|hv
  ·rw[hv]at hst;cases hst
  ·exact hv
 have C:g=c:=by simpa [Value.ownBlock]using hst
 subst C;refine(A7e b g cap p d bs J w A z e2 e3 M (by omega) (by simpa using O)).mono ?_;rintro e w' ⟨rfl,rfl⟩;have m: ∀k,k≠g→(w.drew.freeze ⟨g,0,none⟩ bs.length).heap[k]? =w.heap[k]? :=fun k hk=>by rw[A4q hk];rfl
 have q:Ext (L6 H b (some g) bs) w (w.drew.freeze ⟨g,0,none⟩ bs.length):=by
  refine⟨by unfold World.freeze;split<;>rfl,by unfold World.freeze;split<;>rfl,by unfold World.freeze;split<;>rfl,by rw[B0s];exact D1t _,fun k hk hn=>m k (fun e=>(A2k j hn).2 (by rw[e])),fun k hk=>?_⟩;rw[A9E];rfl
 have y:H.Le (L6 H b (some g) bs):=fun k o ho=>by
  rw[U9 (fun e=>by rw[e,j.hb]at ho;cases ho) (fun e=>by rw[←Option.some.inj e,u]at ho;cases ho)];exact ho
 have i:From w (L6 H b (some g) bs) H:=fun k hk hn=>y.held hn;refine⟨_,rfl,.str (S bs),H,.str _,fun k o ho=>?_,q,i,h⟩;have h1:=y k o ho;refine(hs k o h1).mono q i (m k fun e=>?_);rw[e,u]at ho;cases ho
end Go.Proofs.YtibphjonmikciaaGreatDoor
namespace Go.Av
section
variable {P:Program} {E:Env} {H:Heap} {K:Env→Heap→Prop} {l:List Oper} {KD:D→Heap→Prop} {ev:Operand→D} {cs:Nat→CR} {bs:Nat→Bl} {bl:Bl} {c:CR} {gs:List (Option Nat)}
def pK(P:Program)(gs:List (Option Nat))(cs:Nat→CR)(bs:Nat→Bl)(K:Env→Heap→Prop)(i:Nat)(l:List Oper)(dst:Option Nat)(E:Env):D→Heap→Prop:=fun d H=>wpP P gs cs bs K i l (E.put dst d) H
def pOp(P:Program)(c:CR)(bl:Bl)(ev:Operand→D)(H:Heap)(KD:D→Heap→Prop)(op:Op):Prop:=
 ∃e,x9 P c bl.l ev H op=some e∧A6h bl H e∧P5 P c bl.l ev H op∧∀b,e.okH b H→KD (e.val b) (e.app b H)
def A0t(P:Program)(gs:List (Option Nat))(cs:Nat→CR)(bs:Nat→Bl)(K:Env→Heap→Prop)(i:Nat)(l:List Oper)(dst:Option Nat)(op:Op)(s:Nat)(d:D)(want:Bool)(E:Env)(H:Heap):Prop:=
 (d= .tuple []∧wpP P gs cs bs K (i+1) l (E.put dst (.tuple [])) H)∨
 ∃b,d= .bool b∧(b=want→pOp P (cs i) (bs i) (Env.ev ((s,.bool want)::E)) H (pK P gs cs bs K (i+1) l dst ((s,.bool want)::E)) op)∧(b= !want→wpP P gs cs bs K (i+1) l (Env.put ((s,.bool (!want))::E) dst (.tuple [])) H)
def A9F(P:Program)(gs:List (Option Nat))(cs:Nat→CR)(bs:Nat→Bl)(K:Env→Heap→Prop)(i:Nat)(l:List Oper)(dst:Option Nat)(op:Op)(s:Option Nat)(want:Bool)(E:Env)(H:Heap):Prop:=match s with
 |none=>wpP P gs cs bs K (i+1) l (E.put dst (.tuple [])) H
 |some s=>A0t P gs cs bs K i l dst op s (E.get s) want E H
@[go_sem] theorem D0z(i:Nat):wpP P gs cs bs K i [] E H=K E H:=rfl
@[go_sem] theorem C9n(i:Nat)(dst:Option Nat)(op:Op)(ty:Nat)(pos:String)(after:Array Edge):wpP P gs cs bs K i (⟨dst,op,ty,pos,after,none⟩::l) E H=pOp P (cs i) (bs i) (Env.ev E) H (pK P gs cs bs K (i+1) l dst E) op:=rfl
@[go_sem] theorem C8r(i:Nat)(dst:Option Nat)(op:Op)(ty:Nat)(pos:String)(after:Array Edge)(j:Nat)(d:Bool):
  wpP P gs cs bs K i (⟨dst,op,ty,pos,after,some (j,d)⟩::l) E H=A9F P gs cs bs K i l dst op (I1 gs j) d E H:=by
 rw[wpP];simp only[];unfold A18 A9F;cases I1 gs j<;>rfl
@[go_sem] theorem B95(i:Nat)(dst:Option Nat)(op:Op)(s:Nat)(d:Bool):A9F P gs cs bs K i l dst op (some s) d E H=A0t P gs cs bs K i l dst op s (E.get s) d E H:=rfl
theorem n8(i:Nat)(dst:Option Nat)(op:Op)(s:Nat)(b d:Bool):A0t P gs cs bs K i l dst op s (.bool b) d E H=
  ((b=d→pOp P (cs i) (bs i) (Env.ev ((s,.bool d)::E)) H (pK P gs cs bs K (i+1) l dst ((s,.bool d)::E)) op)∧(b= !d→wpP P gs cs bs K (i+1) l (Env.put ((s,.bool (!d))::E) dst (.tuple [])) H)):=by
 unfold A0t;apply propext;constructor
 ·rintro(⟨h,_⟩|⟨e,h,h1⟩)
  ·cases h
  ·cases h;exact h1
 ·exact fun h=>.inr ⟨b,rfl,h⟩
attribute [go_sem low] n8
@[go_sem high] theorem C2Q(i:Nat)(dst:Option Nat)(op:Op)(s:Nat)(d:Bool):A0t P gs cs bs K i l dst op s (.tuple []) d E H=wpP P gs cs bs K (i+1) l (E.put dst (.tuple [])) H:=by
 unfold A0t;apply propext;constructor
 ·rintro(⟨_,h⟩|⟨e,h,_⟩)
  ·exact h
  ·cases h
 ·exact fun h=>.inl ⟨rfl,h⟩
@[go_sem high] theorem C6N(i:Nat)(dst:Option Nat)(op:Op)(s:Nat):A0t P gs cs bs K i l dst op s (.bool true) true E H=pOp P (cs i) (bs i) (Env.ev ((s,.bool true)::E)) H (pK P gs cs bs K (i+1) l dst ((s,.bool true)::E)) op:=by rw[n8];simp
@[go_sem high] theorem C6O(i:Nat)(dst:Option Nat)(op:Op)(s:Nat):A0t P gs cs bs K i l dst op s (.bool false) false E H=pOp P (cs i) (bs i) (Env.ev ((s,.bool false)::E)) H (pK P gs cs bs K (i+1) l dst ((s,.bool false)::E)) op:=by rw[n8];simp
@[go_sem high] theorem C6P(i:Nat)(dst:Option Nat)(op:Op)(s:Nat):A0t P gs cs bs K i l dst op s (.bool true) false E H=wpP P gs cs bs K (i+1) l (Env.put ((s,.bool true)::E) dst (.tuple [])) H:=by rw[n8];simp
@[go_sem high] theorem C6Q(i:Nat)(dst:Option Nat)(op:Op)(s:Nat):A0t P gs cs bs K i l dst op s (.bool false) true E H=wpP P gs cs bs K (i+1) l (Env.put ((s,.bool false)::E) dst (.tuple [])) H:=by rw[n8];simp
@[go_sem] theorem C9o(i:Nat)(dst:Option Nat)(d:D):pK P gs cs bs K i l dst E d H=wpP P gs cs bs K i l (E.put dst d) H:=rfl
theorem A0P{op:Op}(hc:I4 P op= .pure)(hw:D1 P ev H KD op=R1 (L2 P ev op) KD H):pOp P c bl ev H KD op=D1 P ev H KD op:=by
 rw[hw];apply propext;unfold pOp;rw[U8 hc];constructor
 ·rintro⟨e,he,_,_,hk⟩;obtain⟨d,g,rfl⟩:=D1i.1 he;have:=hk 0 trivial;refine⟨d,g,?_⟩;have e2:(val d []).app 0 H=H:=F6 H;rw[e2]at this;exact this
 ·rintro⟨d,g,hk⟩;refine⟨val d [],by rw[g];rfl,⟨by simp[val],by simp[val],by simp[val],by simp[val]⟩,?_,fun b _=>?_⟩
  ·cases op<;>try trivial
   rename_i h;obtain⟨callee,args,i⟩:=h;cases callee with
   |value f=>simp[I4]at hc
   |_=>trivial
  ·have e2:(val d []).app b H=H:=F6 H;rw[e2];exact hk
@[go_sem] theorem C9p(x:Operand):pOp P c bl ev H KD (.move x)=D1 P ev H KD (.move x):=A0P rfl rfl
@[go_sem] theorem C7b(x:Operand):pOp P c bl ev H KD (.assign x)=D1 P ev H KD (.assign x):=A0P rfl rfl
@[go_sem] theorem C9q(x y z:Operand):pOp P c bl ev H KD (.pick x y z)=D1 P ev H KD (.pick x y z):=A0P rfl rfl
@[go_sem] theorem C8s(t:Nat)(ps:Array (Nat×Operand)):pOp P c bl ev H KD (.build t ps)=D1 P ev H KD (.build t ps):=A0P rfl rfl
@[go_sem] theorem C8t(x:Operand):pOp P c bl ev H KD (.nilCheck x)=D1 P ev H KD (.nilCheck x):=A0P rfl rfl
@[go_sem] theorem D00(op:BinOp)(t:Nat)(x y:Operand)(d:Nat):pOp P c bl ev H KD (.binOp op t x y d)=D1 P ev H KD (.binOp op t x y d):=A0P rfl rfl
@[go_sem] theorem D1K(op:UnOp)(t:Nat)(x:Operand):pOp P c bl ev H KD (.unOp op t x)=D1 P ev H KD (.unOp op t x):=A0P rfl rfl
@[go_sem] theorem D1L(t:Nat)(x:Operand)(f:Nat):pOp P c bl ev H KD (.fieldAddr t x f)=D1 P ev H KD (.fieldAddr t x f):=A0P rfl rfl
@[go_sem] theorem D1M(t:Nat)(x i:Operand):pOp P c bl ev H KD (.indexAddr t x i)=D1 P ev H KD (.indexAddr t x i):=A0P rfl rfl
@[go_sem] theorem C8u(t:Nat)(x:Operand)(lo d e:Option Operand):pOp P c bl ev H KD (.slice t x lo d e)=D1 P ev H KD (.slice t x lo d e):=A0P rfl rfl
@[go_sem] theorem D01(x:Operand)(t:Nat)(h:C6 P t≠ .map):pOp P c bl ev H KD (.call ⟨.builtin .len,#[x],#[t]⟩)=D1 P ev H KD (.call ⟨.builtin .len,#[x],#[t]⟩):=by
 have hc:I4 P (.call ⟨.builtin .len,#[x],#[t]⟩)= .pure:=by
  unfold C6 at h;cases d:P.underlying t with
  |none=>simp[I4,d]
  |some u=>cases u<;>simp[I4,d]<;>simp[d]at h
 refine A0P hc ?_;simp only[D1,hc];rfl
def B6m(bl:Bl)(H:Heap)(l:List Nat):Prop:=∀b∈l,(b∈bl.l∧H b≠none)∧b∉bl.no
@[go_sem] theorem C7c:B6m bl H []=True:=by simp[B6m]
@[go_sem high] theorem C7d(l m:List Nat)(b:Nat):B6m ⟨l,[],m⟩ H [b]=(b∈l∧H b≠none):=by simp[B6m]
@[go_sem] theorem C8v(b o:Nat):rdB (.box b o)= [b]:=rfl
@[go_sem] theorem C9r(b s i o:Nat):rdB (.el b s i o)= [b]:=rfl
@[go_sem] theorem C9s(cs:List D):rdB (.ro cs)= []:=rfl
@[go_sem] theorem C9t(t:Nat)(x:Operand):pOp P c bl ev H KD (.load t x)=(B6m bl H (rdB (ev x))∧D1 P ev H KD (.load t x)):=by
 apply propext;unfold pOp;constructor
 ·rintro⟨e,he,g,_,hk⟩;rw[I7 (by simp[I4])]at he;simp only[I5,D1i]at he;obtain⟨d,h,rfl⟩:=he;have:=hk 0 trivial;have e2:(val d (rdB (ev x))).app 0 H=H:=F6 H;rw[e2]at this;exact⟨g.rd,d,h,this⟩
 ·rintro⟨hr,d,h,hk⟩;refine⟨val d (rdB (ev x)),by rw[I7 (by simp[I4])];simp only[I5,h,Option.map_some],⟨hr,by simp[val],by simp[val],by simp[val]⟩,trivial,fun b _=>?_⟩;have e2:(val d (rdB (ev x))).app b H=H:=F6 H;rw[e2];exact hk
theorem B2f{op:Op}{f:Nat→D}{o:Obj}(ho:o.rw=true)(hr:x9 P c bl.l ev H op=some (A06 f o))(hc:P5 P c bl.l ev H op)(h: ∀b,H b=none→KD (f b) (H.set b o)):pOp P c bl ev H KD op:=
 ⟨_,hr,⟨by simp[A06],by simp[A06],fun o' e=>by cases e;exact ho,by simp[A06]⟩,hc,fun b hb=>by
  have d:H b=none:=by rcases hb with hb|hb;exact hb;simp[A06]at hb
  have e2:(A06 f o).app b H=H.set b o:=by show (H.minus []).set b o=_;rw[F6]
  rw[e2];exact h b d⟩
theorem A3O{op:Op}{f:Nat→D}{o:Obj}(hr:x9 P c bl.l ev H op=some (A06 f o))(h:pOp P c bl ev H KD op): ∀b,H b=none→KD (f b) (H.set b o):=by
 obtain⟨e,he,d,_,hk⟩:=h;rw[hr]at he;cases he;intro b hb;have:=hk b (.inl hb);have e2:(A06 f o).app b H=H.set b o:=by show (H.minus []).set b o=_;rw[F6]
 rw[e2]at this;exact this
@[go_sem] theorem C8w(t:Nat):pOp P c bl ev H KD (.alloc t)=D1 P ev H KD (.alloc t):=by
 apply propext;constructor
 ·intro h;have g:=h;obtain⟨e,he,_⟩:=g;rw[I7 (by simp[I4])]at he;simp only[I5,D1i]at he;obtain⟨z,d,rfl⟩:=he;exact⟨z,d,A3O (f:=fun b=>.box b 0) (o:=.box z (A1y P t)) (by rw[I7 (by simp[I4])];simp only[I5,d,Option.map_some]) h⟩
 ·rintro⟨z,d,hk⟩;exact B2f (f:=fun b=>.box b 0) (o:=.box z (A1y P t)) rfl (by rw[I7 (by simp[I4])];simp only[I5,d,Option.map_some]) trivial hk
@[go_sem] theorem B96(t n:Nat)(ps:Array (Nat×Operand)):pOp P c bl ev H KD (.buildSlice t n ps)=D1 P ev H KD (.buildSlice t n ps):=by
 apply propext;constructor
 ·intro h;have q:=h;obtain⟨e,he,_⟩:=q;rw[I7 (by simp[I4])]at he;simp only[I5,bsE]at he;obtain⟨⟨e',sz,g⟩,i,he⟩:=D1l.1 he;split at he
  ·rename_i h1;obtain⟨z,j,he⟩:=D1l.1 he;split at he
   ·rename_i m;obtain⟨es,d,rfl⟩:=D1i.1 he;exact⟨e',sz,g,z,es,i,h1.1,h1.2,j,m,d,A3O (f:=fun b=>.vec b sz 0 n) (o:=.vec sz es) (by rw[I7 (by simp[I4])];simp only[I5,bsE,i,D13];rw[if_pos h1,j,D13,if_pos m];simp only[d,Option.map_some]) h⟩
   ·cases he
  ·cases he
 ·rintro⟨e',sz,g,z,es,i,h1,p,j,m,d,hk⟩;exact B2f (f:=fun b=>.vec b sz 0 n) (o:=.vec sz es) rfl (by rw[I7 (by simp[I4])];simp only[I5,bsE,i,D13];rw[if_pos ⟨h1,p⟩,j,D13,if_pos m];simp only[d,Option.map_some]) trivial hk
@[go_sem] theorem C2R(t:Nat)(l c':Operand):pOp P c bl ev H KD (.makeSlice t l c')=D1 P ev H KD (.makeSlice t l c'):=by
 apply propext;constructor
 ·intro h;have A:=h;obtain⟨e,he,_⟩:=A;rw[I7 (by simp[I4])]at he;simp only[I5]at he;obtain⟨e',sz,g,z,k,n,y,m,h1,i,j,p,h5,q,r,u,x,d,rfl⟩:=A52 he;exact⟨e',sz,g,z,k,n,y,m,h1,i,j,p,h5,q,r,u,x,d,A3O (f:=fun b=>.vec b sz 0 n.toNat) (o:=.vec sz (List.replicate n.toNat z)) (by rw[I7 (by simp[I4])];exact he) h⟩
 ·rintro⟨e',sz,g,z,k,n,y,m,h1,i,j,p,h5,q,r,u,x,d,hk⟩;exact B2f (f:=fun b=>.vec b sz 0 n.toNat) (o:=.vec sz (List.replicate n.toNat z)) rfl (by rw[I7 (by simp[I4])];simp only[I5];rw[h5,q];exact C3G h1 i j p r u x d) trivial hk
def C3z:D→Prop
 | .box _ _| .el _ _ _ _=>True
 |_=>False
@[go_sem] theorem C7e(b o:Nat):C3z (.box b o)=True:=rfl
@[go_sem] theorem C8x(b s i o:Nat):C3z (.el b s i o)=True:=rfl
@[go_sem] theorem C8y(t:Nat)(a x:Operand):pOp P c bl ev H KD (.store t a x)=(C3z (ev a)∧D1 P ev H KD (.store t a x)):=by
 apply propext;have g:x9 P c bl.l ev H (.store t a x)=w9 P t (ev a) (ev x) H:=by rw[I7 (by simp[I4])];rfl
 constructor
 ·rintro⟨e,he,y,_,hk⟩;rw[g]at he;unfold w9 at he;obtain⟨p,hs,he⟩:=D1l.1 he;have fin: ∀b,rdB (ev a)= [b]→(p b).map (fun o=>(⟨[],[b],some o,some b,fun _=>.undef⟩:Ef))=some e→D1 P ev H KD (.store t a x):=by
   intro b hb h1;obtain⟨o,ho,rfl⟩:=D1i.1 h1;obtain⟨o',q,_,j,_⟩:=A08 hs hb;rw[ho]at q;cases q;have:=hk b rfl;have e2:((⟨[],[b],some o,some b,fun _=>.undef⟩:Ef)).app b H=p:=by show (H.minus [b]).set b o=_;rw[j7,j]
   rw[e2]at this;exact⟨p,hs,this⟩
  cases d:ev a with
  |box b off=>rw[d]at he;exact⟨trivial,fin b (by rw[d];rfl) he⟩
  |el b s i off=>rw[d]at he;exact⟨trivial,fin b (by rw[d];rfl) he⟩
  |_=>rw[d]at he;simp at he
 ·rintro⟨h1,p,hs,hk⟩;have fin: ∀b,rdB (ev a)= [b]→w9 P t (ev a) (ev x) H=(p b).map (fun o=>(⟨[],[b],some o,some b,fun _=>.undef⟩:Ef))→pOp P c bl ev H KD (.store t a x):=by
   intro b hb hst;obtain⟨o,ho,u,j,r⟩:=A08 hs hb;rw[ho,Option.map_some]at hst;refine⟨_,g.trans hst,⟨by simp,fun k hk=>?_,fun o' z=>by cases z;exact u,fun k hk=>by cases hk;simp⟩,trivial,fun k m=>?_⟩
   ·simp at hk;subst hk;exact⟨(fun h=>absurd h (by simp)),r⟩
   ·have m:k=b:=m;subst m;show KD .undef ((H.minus [k]).set k o);rw[j7,←j];exact hk
  cases d:ev a with
  |box b off=>exact fin b (by rw[d];rfl) (by rw[d]at hs⊢;simp only[w9,hs,D13])
  |el b s i off=>exact fin b (by rw[d];rfl) (by rw[d]at hs⊢;simp only[w9,hs,D13])
  |_=>rw[d]at h1;exact h1.elim
def xOk(bl:Bl)(H:Heap)(l:List Nat):Prop:=(∀b∈inB bl.l l,H b≠none∧b∉bl.no)∧∀b∈T3 bl.l l,B2O (H b)=true
def C30(bl:Bl)(b:Nat):Prop:=b∉bl.l∨b∈bl.may
def paV(o:Option Obj)(bl:Bl)(xl:List Nat)(b sz n by_:Nat)(xs:List (List D))(H:Heap)(KD:D→Heap→Prop):Prop:=match o with
 |some (.vec sz' es)=>sz'=sz∧n≤es.length∧(n+xs.length)*by_≤140737488355328∧n+xs.length≤9223372036854775807∧C30 bl b∧xOk bl H xl∧
   ∀b',(H b'=none∨b'∈b::T3 bl.l xl)→KD (.vec b' sz 0 (n+xs.length)) ((H.minus (b::T3 bl.l xl)).set b' (.vec sz (es.take n++xs)))
 |_=>False
@[go_sem] theorem B3n(bl:Bl)(e:List Nat)(b sz sz' n d:Nat)(es xs:List (List D)):paV (some (.vec sz' es)) bl e b sz n d xs H KD=(sz'=sz∧n≤es.length∧(n+xs.length)*d≤140737488355328∧n+xs.length≤9223372036854775807∧C30 bl b∧xOk bl H e∧
      ∀g,(H g=none∨g∈b::T3 bl.l e)→KD (.vec g sz 0 (n+xs.length)) ((H.minus (b::T3 bl.l e)).set g (.vec sz (es.take n++xs)))):=rfl
def paS(s:D)(bl:Bl)(xl:List Nat)(sz by_:Nat)(xs:List (List D))(H:Heap)(KD:D→Heap→Prop):Prop:=match s with
 | .nilsl=>xs.length*by_≤140737488355328∧xs.length≤9223372036854775807∧xs.isEmpty=false∧xOk bl H xl∧∀b,(H b=none∨b∈T3 bl.l xl)→KD (.vec b sz 0 xs.length) ((H.minus (T3 bl.l xl)).set b (.vec sz xs))
 | .vec b sz' lo n=>sz'=sz∧lo=0∧paV (H b) bl xl b sz n by_ xs H KD
 |_=>False
@[go_sem] theorem B97(bl:Bl)(e:List Nat)(sz d:Nat)(xs:List (List D)):paS .nilsl bl e sz d xs H KD=(xs.length*d≤140737488355328∧xs.length≤9223372036854775807∧xs.isEmpty=false∧xOk bl H e∧∀b,(H b=none∨b∈T3 bl.l e)→KD (.vec b sz 0 xs.length) ((H.minus (T3 bl.l e)).set b (.vec sz xs))):=rfl
@[go_sem] theorem B3o(bl:Bl)(e:List Nat)(b sz sz' lo n d:Nat)(xs:List (List D)):paS (.vec b sz' lo n) bl e sz d xs H KD=(sz'=sz∧lo=0∧paV (H b) bl e b sz n d xs H KD):=rfl
def paX(o:Option (List (List D)))(s x:D)(bl:Bl)(sz by_:Nat)(H:Heap)(KD:D→Heap→Prop):Prop:=match o with
 |some xs=>paS s bl (T1 x) sz by_ xs H KD
 |none=>False
@[go_sem] theorem B0u(xs:List (List D))(s x:D)(sz d:Nat):paX (some xs) s x bl sz d H KD=paS s bl (T1 x) sz d xs H KD:=rfl
def paK(P:Program)(et:Option (Nat×Nat×Nat))(bt:R9)(s x:D)(bl:Bl)(H:Heap)(KD:D→Heap→Prop):Prop:=match et with
 |some (e,sz,by_)=>0<sz∧apT bt∧apZ (G1 P e) sz∧paX (M6 H sz x) s x bl sz by_ H KD
 |none=>False
@[go_sem] theorem B0v(e sz d:Nat)(g:R9)(s x:D):paK P (some (e,sz,d)) g s x bl H KD=(0<sz∧apT g∧apZ (G1 P e) sz∧paX (M6 H sz x) s x bl sz d H KD):=rfl
@[go_sem] theorem C7g(b sz lo n:Nat):T1 (.vec b sz lo n)= [b]:=rfl
@[go_sem] theorem C80(sz:Nat)(es:List (List D)):T1 (.sl sz es)= []:=rfl
@[go_sem] theorem C7h(s:ByteArray):T1 (.str s)= []:=rfl
@[go_sem] theorem C7i(k:IntKind)(n:Int):T1 (.int k n)= []:=rfl
@[go_sem] theorem C6R(b:Bool):T1 (.bool b)= []:=rfl
@[go_sem] theorem C7j(cs:List D):T1 (.agg cs)= []:=rfl
@[go_sem] theorem C7k(b o:Nat):T1 (.box b o)= [b]:=rfl
@[go_sem] theorem X1(bl:List Nat):T3 bl []= []:=rfl
theorem B0w{bl:List Nat}(b:Nat)(l:List Nat)(h:b∉bl):T3 bl (b::l)=b::T3 bl l:=by simp[T3,h]
theorem B98{bl:List Nat}(b:Nat)(l:List Nat)(h:b∈bl):T3 bl (b::l)=T3 bl l:=by simp[T3,h]
@[go_sem] theorem A9G:xOk bl H []=True:=by simp[xOk,inB,T3]
theorem B3p(b:Nat)(o:Obj)(hb:H b=some o)(hr:o.rw=true)(e:b∉bl.l∨b∉bl.no):xOk bl H [b]:=by
 refine⟨fun k hk=>?_,fun k hk=>?_⟩
 ·have d:=y0.1 hk;have:=d.1;simp at this;subst this;exact⟨by rw[hb];simp,e.resolve_left fun g=>g d.2⟩
 ·have:=(T4.1 hk).1;simp at this;subst this;rw[hb];exact hr
theorem A0Q(b:Nat)(l:List Nat):H.minus (b::l)=(H.del b).minus l:=by
 funext k;unfold Heap.minus Heap.del
 by_cases h1:k=b<;>by_cases d:k∈l<;>simp[h1,d]
theorem A5U{s x:Operand}{t p:Nat}(h:paK P (G7 P t) (C6 P p) (ev s) (ev x) bl H KD):pOp P c bl ev H KD (.call ⟨.builtin .append,#[s,x],#[t,p]⟩):=by
 have j:x9 P c bl.l ev H (.call ⟨.builtin .append,#[s,x],#[t,p]⟩)=B2P P bl.l H t p (ev s) (ev x):=by rw[I7 (by simp[I4])];rfl
 unfold paK at h;split at h
 ·rename_i e sz T U;obtain⟨h1,V,q,i⟩:=h;have u:(G1 P e).map (·.length)=some sz:=by
   unfold apZ at q;split at q
   ·rename_i z W;rw[W];simp[q]
   ·exact q.elim
  unfold paX at i;split at i
  ·rename_i xs y;have d:=j;unfold B2P at d;rw[U,D13,if_pos ⟨h1,V,u⟩,y,D13]at d;have m: ∀(del:List Nat) (new:Option Obj) (f:Nat→D),xOk bl H (T1 (ev x))→(∀b∈del,C30 bl b∧B2O (H b)=true)→(∀o,new=some o→o.rw=true)→A6h bl H ⟨inB bl.l (T1 (ev x)),del,new,none,f⟩:=fun del new f hx L hn=>
    ⟨fun b hb=>⟨⟨(y0.1 hb).2,(hx.1 b hb).1⟩,(hx.1 b hb).2⟩,fun b hb=>⟨fun _=>(L b hb).1,(L b hb).2⟩,hn,fun b hb=>by cases hb⟩
   unfold paS at i;split at i
   ·rename_i hs;obtain⟨A,C,G,r,I⟩:=i;rw[hs]at d;simp only at d;rw[if_pos ⟨A,C,G⟩]at d;exact⟨_,d,m _ _ _ r (fun b hb=>⟨.inl (T4.1 hb).2,r.2 b hb⟩) (fun o ho=>by cases ho;rfl),trivial,fun b hb=>I b hb⟩
   ·rename_i b sz' lo n hs;obtain⟨A,C,h5⟩:=i;unfold paV at h5;split at h5
    ·rename_i M es hb;obtain⟨G,r,I,X,Y,O,k9⟩:=h5;rw[hs]at d;simp only[hb]at d;rw[if_pos ⟨A,G,C,r,I,X⟩]at d;refine⟨_,d,m _ _ _ O (fun J g=>?_) (fun o ho=>by cases ho;rfl),trivial,fun J g=>k9 J g⟩;rcases D11.1 g with rfl|g
     ·exact⟨Y,by rw[hb];rfl⟩
     ·exact⟨.inl (T4.1 g).2,O.2 J g⟩
    ·exact h5.elim
   ·exact i.elim
  ·exact i.elim
 ·exact h.elim
def A7h:List D→List Nat:=fun l=>l.flatMap T1
@[go_sem] theorem C7l:A7h []= []:=rfl
theorem B40(d:D)(l:List D):A7h (d::l)=T1 d++A7h l:=by simp[A7h]
attribute [go_sem] B40
def crK(c:CR)(H:Heap)(l:List Nat)(KD:D→Heap→Prop):Prop:=match c.new with
 |none=>KD (c.val 0) (H.minus l)
 |some o=>o.rw=true∧∀b,(H b=none∨b∈l)→KD (c.val b) ((H.minus l).set b o)
def pcA(P:Program)(c:CR)(bl:Bl)(f:D)(args:List D)(H:Heap)(KD:D→Heap→Prop):Prop:=match f with
 | .fn (.func g) first cap=>(∀b∈inB bl.l (A7h (first++args++cap)),H b≠none∧b∉bl.no)∧(∀b∈T3 bl.l (A7h (first++args++cap)),B2O (H b)=true)∧
   B6I P g (first++args++cap) H (A7h (first++args++cap)) (T3 bl.l (A7h (first++args++cap))) c∧crK c H (T3 bl.l (A7h (first++args++cap))) KD
 |_=>False
def pcB(P:Program)(c:CR)(bl:Bl)(g:Nat)(as_:List D)(l:List Nat)(H:Heap)(KD:D→Heap→Prop):Prop:=xOk bl H l∧B6I P g as_ H l (T3 bl.l l) c∧crK c H (T3 bl.l l) KD
@[go_sem] theorem C9v(g:Nat)(first args cap:List D):pcA P c bl (.fn (.func g) first cap) args H KD=pcB P c bl g (first++args++cap) (A7h (first++args++cap)) H KD:=by
 unfold pcA pcB xOk;simp only[and_assoc]
@[go_sem] theorem C9w(f:Operand)(args:List Operand)(m:Array Nat):pOp P c bl ev H KD (.call ⟨.value f,args.toArray,m⟩)=pcA P c bl (ev f) (args.map ev) H KD:=by
 have i:x9 P c bl.l ev H (.call ⟨.value f,args.toArray,m⟩)=I5 P c bl.l ev H (.call ⟨.value f,args.toArray,m⟩):=I7 (by simp[I4]);apply propext;unfold pcA;constructor
 ·rintro⟨e,he,d,hc,hk⟩;rw[i]at he;simp only[I5]at he;simp only[P5]at hc;split at he
  ·rename_i g first cap hf
   cases he
   (first|rw[hf]at hc⊢ |rw[hf]at hc)
   refine⟨fun b hb=>⟨(d.rd b hb).1.2,(d.rd b hb).2⟩,fun b hb=>(d.del b hb).2,hc,?_⟩;unfold crK;unfold Ef.okH Ef.app at hk;cases hn:c.new with
   |none=>simp only[hn,CR.f]at hk⊢;exact hk 0 trivial
   |some o=>
    simp only[hn,CR.f]at hk⊢;exact⟨d.new o hn,fun b hb=>hk b hb⟩
  ·cases he
 ·intro h;split at h
  ·rename_i g first cap hf
   obtain⟨h1,p,q,j⟩:=h;refine⟨⟨inB bl.l ((first++args.map ev++cap).flatMap T1),T3 bl.l ((first++args.map ev++cap).flatMap T1),c.new,none,c.f⟩,?_,⟨fun b hb=>⟨⟨(y0.1 hb).2,(h1 b hb).1⟩,(h1 b hb).2⟩,fun b hb=>⟨fun _=>.inl (T4.1 hb).2,p b hb⟩,fun o ho=>?_,by simp⟩,?_,fun b hb=>?_⟩
   ·rw[i];simp only[I5,hf]
   ·unfold crK at j;simp only at ho;rw[ho]at j;exact j.1
   ·simp only[P5,hf];exact q
   ·unfold crK at j;unfold Ef.okH at hb;unfold Ef.app;cases hn:c.new with
    |none=>simp only[hn,CR.f]at j⊢;exact j
    |some o=>
     simp only[hn,CR.f]at j hb⊢;exact j.2 b hb
  ·exact h.elim
theorem S6{g:Nat}{d:List D}{c:D}(h: ∀(H':Heap) (Q:D→Heap→Prop),(∀k cs,H k=some (.ro cs)→H' k=some (.ro cs))→Q c H'→ACalls P g d H' Q)(hk:KD c H):pcB P (.c c) bl g d [] H KD:=
 ⟨by rw[A9G];trivial,fun H' hro _=>h H' _ hro ⟨rfl,by rw[X1,F6];exact D20 H'⟩,by rw[X1];show KD c (H.minus []);rw[F6];exact hk⟩
theorem pc1{g b:Nat}{d:List D}{c:D}{o:Obj}(hb:H b=some o)(hr:o.rw=true)(hn:b∉bl.l)(h: ∀(H':Heap) (Q:D→Heap→Prop),(∀k cs,H k=some (.ro cs)→H' k=some (.ro cs))→H' b=some o→Q c (H'.del b)→ACalls P g d H' Q)(hk:KD c (H.del b)):pcB P (.c c) bl g d [b] H KD:=by
 have e:T3 bl.l [b]= [b]:=by rw[B0w b [] hn,X1]
 have e2: ∀H:Heap,H.minus [b]=H.del b:=fun H=>by rw[A0Q,F6]
 exact⟨B3p b o hb hr (.inl hn),fun H' hro i=>h H' _ hro (by rw[i b (by simp),hb]) ⟨rfl,by rw[e,e2];exact D20 _⟩,by rw[e];show KD c (H.minus [b]);rw[e2];exact hk⟩
theorem pcm{g:Nat}{d:List D}{f:Nat→D}{o:Obj}(ho:o.rw=true)(h: ∀(H':Heap) (Q:D→Heap→Prop),(∀k cs,H k=some (.ro cs)→H' k=some (.ro cs))→(∀b,H' b=none→Q (f b) (H'.set b o))→ACalls P g d H' Q)(hk: ∀b,H b=none→KD (f b) (H.set b o)):pcB P (.mk' f o) bl g d [] H KD:=by
 refine⟨by rw[A9G];trivial,fun H' hro _=>h H' _ hro fun b hb=>?_,?_⟩
 ·exact⟨b,.inl hb,rfl,by rw[X1,F6];exact D20 _⟩
 ·rw[X1];refine⟨ho,fun b hb=>?_⟩;rw[F6];exact hk b (hb.resolve_right (by simp))
theorem C32{bl:List Nat}(b:Nat)(h:b∈bl):inB bl [b]= [b]:=by simp[inB,h]
theorem C9x{g b:Nat}{d:List D}{f:Nat→D}{o o':Obj}(hb:H b=some o)(hl:b∈bl.l)(hn:b∉bl.no)(ho:o'.rw=true)(h: ∀(H':Heap) (Q:D→Heap→Prop),(∀k cs,H k=some (.ro cs)→H' k=some (.ro cs))→H' b=some o→(∀v,H' v=none→Q (f v) (H'.set v o'))→ACalls P g d H' Q)(hk: ∀v,H v=none→KD (f v) (H.set v o')):pcB P (.mk' f o') bl g d [b] H KD:=by
 have e:T3 bl.l [b]= []:=by rw[B98 b [] hl,X1]
 refine⟨⟨fun k hk=>?_,fun k hk=>?_⟩,fun H' hro i=>h H' _ hro (by rw[i b (by simp),hb]) fun v hv=>?_,?_⟩
 ·rw[C32 b hl]at hk;simp at hk;subst hk;exact⟨by rw[hb];simp,hn⟩
 ·rw[e]at hk;cases hk
 ·exact⟨v,.inl hv,rfl,by rw[e,F6];exact D20 _⟩
 ·rw[e];refine⟨ho,fun v hv=>?_⟩;rw[F6];exact hk v (hv.resolve_right (by simp))
end
def J8(sz n:Nat):Option Nat→D
 |none=>.nilsl
 |some c=>.vec c sz 0 n
def L5(H:Heap):Option Nat→Heap
 |none=>H
 |some c=>H.del c
def putB(H:Heap)(sz:Nat)(es:List (List D)):Option Nat→Heap
 |none=>H
 |some c=>H.set c (.vec sz es)
def OutAt(H:Heap)(sz:Nat)(es:List (List D)):Option Nat→Prop
 |none=>es= []
 |some c=>H c=some (.vec sz es)
theorem E6{H:Heap}{b:Nat}{o:Obj}(h:H b=none):(H.set b o).del b=H:=by
 funext k
 unfold Heap.del Heap.set;by_cases hk:k=b
 ·subst hk;simp[h]
 ·simp[hk]
theorem B99(H:Heap)(ob:Option Nat):(L5 H ob).Le H:=by
 cases ob with
 |none=>exact D20 H
 |some c=>exact E5 H c
@[go_sem] theorem C6S(sz n:Nat)(ob:Option Nat):(J8 sz n ob).cells= [J8 sz n ob]:=by cases ob<;>rfl
@[go_sem] theorem C7n(sz n:Nat):J8 sz n none= .nilsl:=rfl
@[go_sem] theorem K6(sz n c:Nat):J8 sz n (some c)= .vec c sz 0 n:=rfl
theorem B3q{P:Program}{t sz n:Nat}{ob:Option Nat}(h:ob=none→n=0):A6P P t (J8 sz n ob)=if C6 P t= .slice then some (.int .i64 n)else none:=by
 cases ob with
 |none=>rw[h rfl];rfl
 |some c=>rfl
section
variable {P:Program} {H:Heap} {KD:D→Heap→Prop}
theorem A55{sz d n:Nat}{ob:Option Nat}(es:List (List D)){xs:List (List D)}(g:xs≠[])(hn:n=es.length)(hc:OutAt H sz es ob)(h1:(n+xs.length)*d≤140737488355328)(i:n+xs.length≤9223372036854775807)
  (h: ∀b',L5 H ob b'=none→KD (.vec b' sz 0 (n+xs.length)) ((L5 H ob).set b' (.vec sz (es++xs)))):apS (J8 sz n ob) sz d xs H KD:=by
 cases ob with
 |none=>
  have e:es= []:=hc;subst e;subst hn;simp only[D1g,Nat.zero_add,D2l,L5]at h1 i h;exact⟨h1,i,fun e=>absurd e g,fun _ b hb=>h b hb⟩
 |some c=>
  have e:H c=some (.vec sz es):=hc;subst hn;refine⟨rfl,.inl ⟨rfl,?_⟩⟩;rw[e];refine⟨rfl,D1t _,h1,i,fun b hb=>?_⟩;rw[D1o (D1t _)];exact h b hb
theorem ACalls.out{f n:Nat}{sz:Nat}{es:List (List D)}{ob:Option Nat}{ds:List D}{Q:D→Heap→Prop}(hn:n=es.length)(hc:OutAt H sz es ob)(h:ACalls P f (.sl sz es::ds) (L5 H ob) Q):ACalls P f (J8 sz n ob::ds) H Q:=by
 subst hn;cases ob with
 |none=>
  have e:es= []:=hc;subst e;refine ACalls.shift (args':=.sl sz []::ds) (fun w vs h1 g m=>⟨by simpa using h1,fun i d j=>?_,m,fun _ hn=>hn⟩) h;cases i with
  |zero=>simp at j;subst j;exact(g 0 _ rfl).nil_sl sz
  |succ i=>exact g (i+1) d (by simpa using j)
 |some c=>
  refine ACalls.freeze (args':=.sl sz es::ds) hc (by simp) (fun i d d' h1 g=>?_) h;cases i with
  |zero=>simp[J8]at h1 g;subst h1;subst g;exact .all
  |succ i=>simp at h1 g;rw[h1]at g;cases g;exact .same _
theorem V6{f b n sz:Nat}{es:List (List D)}{ds:List D}{Q:D→Heap→Prop}(hb:H b=some (.vec sz es))(hn:n=es.length)(h:ACalls P f (.sl sz es::ds) (H.del b) Q):ACalls P f (.vec b sz 0 n::ds) H Q:=
 ACalls.out (ob:=some b) hn hb h
theorem A0o{f b n sz:Nat}{es:List (List D)}{a:D}{ds:List D}{Q:D→Heap→Prop}(hb:H b=some (.vec sz es))(hn:n=es.length)(h:ACalls P f (a:: .sl sz es::ds) (H.del b) Q):ACalls P f (a:: .vec b sz 0 n::ds) H Q:=by
 subst hn;refine ACalls.freeze (args':=a:: .sl sz es::ds) hb (by simp) (fun i d d' h1 e=>?_) h
 match i with
 |0=>simp at h1 e;subst h1;subst e;exact .same _
 |1=>simp at h1 e;subst h1;subst e;exact .all
 |i+2=>simp at h1 e;rw[h1]at e;cases e;exact .same _
theorem Fin.out{n sz:Nat}{es:List (List D)}{ob:Option Nat}{Q:D→Heap→Prop}(hn:n=es.length)(hc:OutAt H sz es ob)(h:Fin Q (.sl sz es) (L5 H ob)):Fin Q (J8 sz n ob) H:=by
 subst hn;cases ob with
 |none=>
  have e:es= []:=hc;subst e;unfold Fin at h⊢;obtain⟨d,e,h1,g⟩:=h;exact⟨d,e,Shift.trans (fun w v hr hs=>⟨by cases hr;exact .sl0 _ _ _,hs,fun _ hn=>hn⟩) h1,g⟩
 |some c=>exact Fin.freeze hc .all h
theorem A7a{n sz:Nat}{es:List (List D)}{ob:Option Nat}{ds:List D}{Q:D→Heap→Prop}(hn:n=es.length)(hc:OutAt H sz es ob)(h:Fin Q (.tuple (.sl sz es::ds)) (L5 H ob)):Fin Q (.tuple (J8 sz n ob::ds)) H:=by
 cases ob with
 |none=>
  have e:es= []:=hc;subst e;exact Fin.nilsl sz ds h
 |some c=>exact B3T hc hn h
end
theorem B41{H:Heap}{sz:Nat}{es:List (List D)}{ob:Option Nat}(h:ob=none→es= []):OutAt (putB H sz es ob) sz es ob:=by
 cases ob with
 |none=>exact h rfl
 |some c=>simp[OutAt,putB,Heap.set]
def Rw{α :Type}(f: α →List D)(l:List α):List (List D):=l.map f
section
variable {α :Type} {f: α →List D}
@[go_sem] theorem D6(l:List α):(Rw f l).length=l.length:=by simp[Rw]
theorem A9(l:List α)(k:Nat)(h:k<l.length):(Rw f l).getD k []=f l[k]:=by simp[Rw,h]
theorem C0(l:List α)(k:Nat)(h:k<l.length):(Rw f l)[k]? =some (f l[k]):=by simp[Rw,h]
theorem A2l(l:List α)(k:Nat):(Rw f l).take k=Rw f (l.take k):=by simp[Rw]
theorem A56(l:List α)(k:Nat):(Rw f l).drop k=Rw f (l.drop k):=by simp[Rw]
theorem P1(l m:List α):Rw f l++Rw f m=Rw f (l++m):=by simp[Rw]
theorem A0u:Rw f []= []:=rfl
theorem Z9(l:List α)(k:Nat)(x: α)(c:List D)(h:f x=c):(Rw f l).set k c=Rw f (l.set k x):=by subst h;simp[Rw,List.map_set]
theorem A6s(n:Nat)(x: α)(c:List D)(h:f x=c):List.replicate n c=Rw f (List.replicate n x):=by subst h;simp[Rw]
end
def L7(s:ByteArray):List D:=[.str s]
@[go_sem] theorem C9y(s:ByteArray):L7 s= [.str s]:=rfl
def OutIn(H:Heap)(sz:Nat)(es:List (List D))(ob:Option Nat)(Hc:Heap):Prop:=H.Le Hc∧OutAt Hc sz es ob∧∀b,ob=some b→H b=none
theorem OutIn.set{H:Heap}{sz:Nat}{es:List (List D)}{ob:Option Nat}{d:Heap}(h:OutIn H sz es ob d){b:Nat}(hb:d b=none)(o:Obj):OutIn H sz es ob (d.set b o):=by
 refine⟨h.1.trans (A2 hb),?_,h.2.2⟩;cases ob with
 |none=>exact h.2.1
 |some c=>
  have hc:d c=some (.vec sz es):=h.2.1;show (d.set b o) c=_;rw[A3 o (by rintro rfl;rw[hb]at hc;cases hc)];exact hc
theorem OutIn.le{H:Heap}{sz:Nat}{es:List (List D)}{ob:Option Nat}{d:Heap}(h:OutIn H sz es ob d):H.Le (L5 d ob):=by
 cases ob with
 |none=>exact h.1
 |some c=>
  intro k x hk;show (d.del c) k=_;rw[F1 (by rintro rfl;rw[h.2.2 _ rfl]at hk;cases hk)];exact h.1 k x hk
theorem OutIn.new{H:Heap}{sz:Nat}{es:List (List D)}{ob:Option Nat}{d:Heap}(h:OutIn H sz es ob d){b:Nat}(hb:L5 d ob b=none):H b=none:=h.le.none hb
theorem OutIn.step{H:Heap}{sz:Nat}{es:List (List D)}{ob:Option Nat}{d:Heap}(h:OutIn H sz es ob d){b:Nat}(o:Obj):(H.set b o).Le ((L5 d ob).set b o):=by
 intro k x hk;unfold Heap.set at hk⊢;split
 ·rename_i e;rw[if_pos e]at hk;exact hk
 ·rename_i e;rw[if_neg e]at hk;exact h.le k x hk
section
variable {H Hc:Heap} {KD:D→Heap→Prop} {sz by_ n:Nat} {ob:Option Nat} {es xs:List (List D)}
theorem B6o(e:OutIn H sz es ob Hc)(g:xs≠[])(hn:n=es.length)(h1:(n+xs.length)*by_≤140737488355328)(i:n+xs.length≤9223372036854775807)
  (h: ∀b',H b'=none→L5 Hc ob b'=none→(∀o,(H.set b' o).Le ((L5 Hc ob).set b' o))→KD (.vec b' sz 0 (n+xs.length)) ((L5 Hc ob).set b' (.vec sz (es++xs)))):apS (J8 sz n ob) sz by_ xs Hc KD:=
 A55 es g hn e.2.1 h1 i fun b' d=>h b' (e.new d) d fun o=>e.step o
theorem S2{α :Type}{f: α →List D}(l:List α)(k:Nat)(h:k<l.length):Rw f (l.take (k+1))=Rw f (l.take k)++[f l[k]]:=by
 rw[D1s h];simp only[Rw,D2Z,D2q,List.map_nil]
theorem R2{α :Type}{f: α →List D}(l:List α)(k:Nat)(h:k≤l.length):(Rw f (l.take k)).length=k:=by simp[Rw];omega
end
theorem B6p{b sz:Nat}{es:List (List D)}{E0 E:Env}(h:Av.Sub E0 E): ∀p∈E0,Fz b sz es (E.get p.1) p.2:=fun p hp=>by
 rw[h.all p hp];exact .same _
theorem V7{Q:D→Heap→Prop}{cs cs':List D}{H:Heap}{b sz:Nat}{es:List (List D)}(hb:H b=some (.vec sz es))(hl:cs.length=cs'.length)
  (o: ∀(i:Nat) d d',cs[i]? =some d→cs'[i]? =some d'→Fz b sz es d d') (h:Fin Q (.agg cs') (H.del b)):Fin Q (.agg cs) H:=by
 unfold Fin at h⊢;obtain⟨p,d1,h1,q⟩:=h;refine⟨p,d1,Shift.trans (fun w v hr hs=>?_) h1,q⟩;refine⟨?_,hs.less (E5 H b),fun k hn=>(E5 H b).held hn⟩;cases hr with
 |agg _ vs r ho hr=>
  have key: ∀(i:Nat) d',cs'[i]? =some d'→∃d,cs[i]? =some d∧Fz b sz es d d':=fun i d' e=>by
   have u:=(D1j.1 e).1;have g:i<cs.length:=by omega
   exact⟨cs[i],D1q g,o i _ _ (D1q g) e⟩
  refine .agg cs' vs (by omega) (fun i d' e=>?_) (fun i d' e=>?_)
  ·obtain⟨d,j,m⟩:=key i d' e;exact m.one (ho i d j)
  ·obtain⟨d,j,m⟩:=key i d' e;exact m.R hs hb (hr i d j)
theorem C9z{P:Program}{H0:Heap}{d:D→Heap→Prop}{bl:Bl}{g b:Nat}{e:List D}{c:D}{o:Obj}(i:H0 b=none)(hr:o.rw=true)(hn:b∉bl.l)(h: ∀(H':Heap) (Q:D→Heap→Prop),(∀k cs,(H0.set b o) k=some (.ro cs)→H' k=some (.ro cs))→H' b=some o→Q c (H'.del b)→ACalls P g e H' Q)(hk:d c H0):pcB P (.c c) bl g e [b] (H0.set b o) d:=
 pc1 (A0 _ _) hr hn h (by rw[E6 i];exact hk)
theorem C33{H0:Heap}{i:D→Heap→Prop}{bl:Bl}{b sz n e:Nat}{es xs:List (List D)}(g:H0 b=none)(hn:n=es.length)(hb:b∉bl.l)(h1:(n+xs.length)*e≤140737488355328)(j:n+xs.length≤9223372036854775807)
  (h: ∀b',H0 b'=none→i (.vec b' sz 0 (n+xs.length)) (H0.set b' (.vec sz (es++xs)))):paV (some (.vec sz es)) bl [] b sz n e xs (H0.set b (.vec sz es)) i:=by
 rw[B3n];refine⟨rfl,by omega,h1,j,.inl hb,by rw[A9G];trivial,fun b' d=>?_⟩;rw[X1,A0Q,F6,E6 g,D1o (by omega)];refine h b' ?_;rcases d with d|d
 ·exact(A2 g).none d
 ·rw[X1]at d;simp at d;rw[d];exact g
theorem B42{P:Program}{c:CR}{bl:Bl}{ev:Operand→D}{H:Heap}{j:D→Heap→Prop}{s x:Operand}{t m:Nat}(e d:Nat)(xs:List (List D)){sz b:Nat}{es:List (List D)}{H0:Heap}(o:H=H0.set b (.vec sz es))
  (p:G7 P t=some (e,sz,d)) (q:0<sz) (h1:apT (C6 P m)) (r:apZ (G1 P e) sz) (hs:ev s= .vec b sz 0 es.length) (hx:M6 H sz (ev x)=some xs) (hv:T1 (ev x)= []) (g:H0 b=none) (i:b∉bl.l)
  (u:(es.length+xs.length)*d≤140737488355328) (y:es.length+xs.length≤9223372036854775807) (h: ∀b',H0 b'=none→j (.vec b' sz 0 (es.length+xs.length)) (H0.set b' (.vec sz (es++xs)))):pOp P c bl ev H j (.call ⟨.builtin .append,#[s,x],#[t,m]⟩):=by
 subst o;refine A5U ?_;rw[p,B0v];refine⟨q,h1,r,?_⟩;rw[hx,B0u,hs,hv,B3o,A0];exact⟨rfl,rfl,C33 g rfl i u y h⟩
theorem C7o{d:Heap}{ob:Option Nat}{e k:Nat}{x o:Obj}(h1:d k=some o)(i:ob≠some k)(g:L5 d ob e=none):((L5 d ob).set e x) k=some o:=by
 have h:L5 d ob k=some o:=by
  cases ob with
  |none=>exact h1
  |some c=>
   show (d.del c) k=_;rw[F1 (by rintro rfl;exact i rfl)];exact h1
 rw[A3 _ (by rintro rfl;rw[h]at g;cases g)];exact h
theorem newK{h:Heap}{ob:Option Nat}{d:Nat}(g:L5 h ob d=none):h d=none∨ob=some d:=by
 cases ob with
 |none=>exact .inl g
 |some c=>
  change (h.del c) d=none at g;simp only[Heap.del]at g;by_cases e:d=c
  ·exact .inr (by rw[e])
  ·rw[if_neg e]at g;exact .inl g
def Apd(H0:Heap)(sz:Nat)(ob:Option Nat)(es:List (List D))(b':Nat)(H':Heap):Prop:=
 H' b'=some (.vec sz es)∧(∀q o,H0 q=some o→ob≠some q→H' q=some o)∧(H0 b'=none∨ob=some b')
theorem A5V{P:Program}{z:D→Heap→Prop}{H0:Heap}{sz m n bx:Nat}{ob:Option Nat}{o:Obj}{es xs:List (List D)}(i:H0 bx=none)(r:xs≠[])(d:OutAt H0 sz es ob)(hn:n=es.length)(h1:(n+xs.length)*m≤140737488355328)(A:n+xs.length≤9223372036854775807)
  (h: ∀b' H',Apd H0 sz ob (es++xs) b' H'→z (.vec b' sz 0 (n+xs.length)) H'):apS (J8 sz n ob) sz m xs (H0.set bx o) z:=by
 have u:ob≠some bx:=fun e=>by subst e;have:H0 bx=some (.vec sz es):=d;rw[i]at this;cases this
 have j:OutAt (H0.set bx o) sz es ob:=by
  cases ob with
  |none=>exact d
  |some c=>show Heap.set _ bx _ c=_;rw[A3 _ (fun e=>u (by rw[e]))];exact d
 refine A55 es r hn j h1 A fun b' p=>?_;refine h b' _ ⟨A0 _ _,fun q x hq y=>C7o (by rw[A3 _ (by rintro rfl;rw[i]at hq;cases hq)];exact hq) y p,?_⟩;rcases newK p with g|g
 ·exact .inl ((A2 i).none g)
 ·exact .inr g
theorem A5l{Q:D→Heap→Prop}{cs cs':List D}{x:D}{H:Heap}{b sz:Nat}{es:List (List D)}(hb:H b=some (.vec sz es))(hl:cs.length=cs'.length)
  (u: ∀(i:Nat) d d',cs[i]? =some d→cs'[i]? =some d'→Fz b sz es d d') (h:Fin Q (.tuple [.agg cs',x]) (H.del b)):Fin Q (.tuple [.agg cs,x]) H:=by
 unfold Fin at h⊢;obtain⟨y,d1,h1,z⟩:=h;refine⟨y,d1,Shift.trans (fun w v hr hs=>?_) h1,z⟩;refine⟨?_,hs.less (E5 H b),fun k hn=>(E5 H b).held hn⟩;cases hr with
 |tuple _ us o j=>
  refine .tuple [.agg cs',x] us o (fun q d' e=>?_)
  match q with
  |0=>
   cases e;have g:=j 0 (.agg cs) rfl;revert g;generalize us.getD 0 undef=v0;intro g;cases g with
   |agg _ vs A ho hr=>
    have key: ∀(i:Nat) d',cs'[i]? =some d'→∃d,cs[i]? =some d∧Fz b sz es d d':=fun i d' e=>by
     have C:=(D1j.1 e).1;have m:i<cs.length:=by omega
     exact⟨cs[i],D1q m,u i _ _ (D1q m) e⟩
    refine .agg cs' vs (by omega) (fun i d' e=>?_) (fun i d' e=>?_)
    ·obtain⟨d,p,r⟩:=key i d' e;exact r.one (ho i d p)
    ·obtain⟨d,p,r⟩:=key i d' e;exact r.R hs hb (hr i d p)
  |1=>cases e;exact(j 1 _ rfl).less (E5 H b)
  |q+2=>cases e
theorem A7Y{P:Program}{f b sz:Nat}{es:List (List D)}{args:List D}{H H':Heap}{Q:D→Heap→Prop}(hb:H b=some (.vec sz es))
  (A: ∀k o',H' k=some o'→k≠b∧∃o,H k=some o∧OFz b sz es o o') (h:ACalls P f args H' Q):ACalls P f args H Q:=by
 refine ACalls.shift (fun w vs h1 x hs=>?_) h;have e: ∀k,H.held k=false→H'.held k=false:=fun k hk=>by
  cases ho:H' k with
  |none=>exact I0 ho
  |some o'=>
   obtain⟨_,o,h1,x⟩:=A k o' ho;rw[J6 h1]at hk;rw[J6 ho];cases x<;>exact hk
 have C: ∀{d d':D} {v:Value},Fz b sz es d d'→R w H d v→R w H' d' v:=fun r hr=>(r.R hs hb hr).mono (D26 _ _) fun k _ hk=>by
  by_cases y:k=b
  ·subst y;cases ho:H' k with
   |none=>exact I0 ho
   |some o'=>exact absurd rfl (A k o' ho).1
  ·refine e k ?_;rw[←A0b (H:=H) (H':=H.del b) (k:=k) (by unfold Heap.del;rw[if_neg y])];exact hk
 refine⟨h1,fun i d q=>C (.same d) (x i d q),fun k o' ho=>?_,e⟩;obtain⟨_,o,h1,x⟩:=A k o' ho;have u:=hs k o h1;cases x with
 |same=>exact u.mono (D26 H w) (fun k _ hk=>e k hk) rfl
 |box cs cs' Z hl r=>
  obtain⟨c,T,lo,G,I,J,O,z,L⟩:=u;refine⟨c,T,lo,G,I,J,by omega,fun j d' m=>?_,L⟩;have V:=(D1j.1 m).1;have q:cs[j]? =some (cs[j]'(by omega)):=D1q _;have p:=r j _ _ q m;exact⟨p.one (z j _ q).1,C p (z j _ q).2⟩
 |vec s xs xs' hl r=>
  obtain⟨c,T,lo,G,I,J,O,z,L,U⟩:=u;refine⟨c,T,lo,G,I,J,O,by rw[←hl];exact z,fun i x' g=>?_,fun i x' j d' g m=>?_⟩
  ·have M:=(D1j.1 g).1;have hx:xs[i]? =some (xs[i]'(by omega)):=D1q _;rw[←(r i _ _ hx g).1];exact L i _ hx
  ·have M:=(D1j.1 g).1;have hx:xs[i]? =some (xs[i]'(by omega)):=D1q _;have hlen:=(r i _ _ hx g).1;have V:=(D1j.1 m).1;have q:(xs[i]'(by omega))[j]? =some ((xs[i]'(by omega))[j]'(by omega)):=D1q _;have p:=(r i _ _ hx g).2 j _ _ q m;exact⟨p.one (U i _ j _ hx q).1,C p (U i _ j _ hx q).2⟩
inductive NilR:D→D→Prop
 |same (d:D):NilR d d
 |nil (z:Nat):NilR .nilsl (.sl z [])
 |agg (cs cs':List D) (hl:cs.length=cs'.length) (h: ∀(i:Nat) d d',cs[i]? =some d→cs'[i]? =some d'→NilR d d'):NilR (.agg cs) (.agg cs')
 |tuple (cs cs':List D) (hl:cs.length=cs'.length) (h: ∀(i:Nat) d d',cs[i]? =some d→cs'[i]? =some d'→NilR d d'):NilR (.tuple cs) (.tuple cs')
 |sl (sz:Nat) (es es':List (List D)) (hl:es.length=es'.length) (h1: ∀(i:Nat) (e e':List D),es[i]? =some e→es'[i]? =some e'→e.length=e'.length)
   (h: ∀(i:Nat) (e e':List D) (j:Nat) (d d':D),es[i]? =some e→es'[i]? =some e'→e[j]? =some d→e'[j]? =some d'→NilR d d'):NilR (.sl sz es) (.sl sz es')
theorem NilR.one{d d':D}(h:NilR d d')(ho:d.one=true):d'.one=true:=by
 cases h with
 |same=>exact ho
 |nil=>rfl
 |agg=>cases ho
 |tuple=>cases ho
 |sl=>rfl
theorem G3{α β :Type}{l:List α}{m:List β}(hl:l.length=m.length){i:Nat}{y: β}(h:m[i]? =some y): ∃x,l[i]? =some x:=by
 have d:=(D1j.1 h).1;exact⟨l[i]'(by omega),D1q _⟩
theorem NilR.R{d d':D}(h:NilR d d'): ∀{w:World} {H:Heap} {v:Value},R w H d v→R w H d' v:=by
 induction h with
 |same d=>exact fun hr=>hr
 |nil z=>intro w H v hr;cases hr;exact .sl0 _ _ _
 |agg cs cs' hl h p=>
  intro w H v hr;cases hr with
  |agg _ vs q ho hr=>
   refine .agg cs' vs (by omega) (fun i d' g=>?_) (fun i d' g=>?_)
   ·obtain⟨d,o⟩:=G3 hl g;exact(h i d d' o g).one (ho i d o)
   ·obtain⟨d,o⟩:=G3 hl g;exact p i d d' o g (hr i d o)
 |tuple cs cs' hl h p=>
  intro w H v hr;cases hr with
  |tuple _ vs q hr=>
   refine .tuple cs' vs (by omega) (fun i d' g=>?_);obtain⟨d,o⟩:=G3 hl g;exact p i d d' o g (hr i d o)
 |sl sz es es' hl h1 h p=>
  intro w H v hr;cases hr with
  |sl0 _ a cap=>
   have:es'= []:=D1x (by simpa using hl.symm);subst this;exact .sl0 _ _ _
  |sl _ _ b off cap u hb hn hlen hcap hc ho hr=>
   rw[hl];refine .sl sz es' b off cap u hb hn (fun i e' m=>?_) (by omega) (fun i j x r=>hc i j (by omega) r) (fun i e' j d' m g=>?_) (fun i e' j d' m g=>?_)
   ·obtain⟨e,he⟩:=G3 hl m;rw[←h1 i e e' he m];exact hlen i e he
   ·obtain⟨e,he⟩:=G3 hl m;obtain⟨d,o⟩:=G3 (h1 i e e' he m) g;exact(h i e e' j d d' he m o g).one (ho i e j d he o)
   ·obtain⟨e,he⟩:=G3 hl m;obtain⟨d,o⟩:=G3 (h1 i e e' he m) g;exact p i e e' j d d' he m o g (hr i e j d he o)
theorem NilR.rw{α :Type}{f g: α →List D}(sz:Nat)(l:List α)(h1: ∀x∈l,(f x).length=(g x).length)(h: ∀x∈l,∀(j:Nat) d d',(f x)[j]? =some d→(g x)[j]? =some d'→NilR d d'):NilR (.sl sz (Rw f l)) (.sl sz (Rw g l)):=by
 refine .sl sz _ _ (by simp[Rw]) (fun i e e' he m=>?_) (fun i e e' j d d' he m q p=>?_)
 ·simp only[Rw,D1w,D1i]at he m;obtain⟨x,hx,rfl⟩:=he;obtain⟨y,o,rfl⟩:=m;rw[hx]at o;cases o;exact h1 x (D16 hx)
 ·simp only[Rw,D1w,D1i]at he m;obtain⟨x,hx,rfl⟩:=he;obtain⟨y,o,rfl⟩:=m;rw[hx]at o;cases o;exact h x (D16 hx) j d d' q p
theorem D4{Q:D→Heap→Prop}{d d':D}{H:Heap}(hn:NilR d d')(h:Fin Q d' H):Fin Q d H:=by
 unfold Fin at h⊢;obtain⟨e,d1,h1,g⟩:=h;exact⟨e,d1,Shift.trans (fun w v hr hs=>⟨hn.R hr,hs,fun k hk=>hk⟩) h1,g⟩
theorem V5{P:Program}{f:Nat}{args args':List D}{H:Heap}{Q:D→Heap→Prop}(hl:args.length=args'.length)(hn: ∀(i:Nat) d d',args[i]? =some d→args'[i]? =some d'→NilR d d')(h:ACalls P f args' H Q):ACalls P f args H Q:=
 ACalls.shift (args':=args') (fun w vs h1 j m=>⟨by omega,fun i d' e=>by
  obtain⟨d,g⟩:=G3 hl e;exact(hn i d d' g e).R (j i d g),m,fun _ hk=>hk⟩) h
inductive View(H:Heap):D→D→Prop
 |same (d:D):View H d d
 |vec (b sz n:Nat) (es es':List (List D)) (hb:H b=some (.vec sz es)) (hn:n=es.length) (hl:es.length=es'.length) (h1: ∀(i:Nat) (e e':List D),es[i]? =some e→es'[i]? =some e'→e.length=e'.length)
   (h: ∀(i:Nat) (e e':List D) (j:Nat) (d d':D),es[i]? =some e→es'[i]? =some e'→e[j]? =some d→e'[j]? =some d'→View H d d'):View H (.vec b sz 0 n) (.sl sz es')
 |nil (sz:Nat):View H .nilsl (.sl sz [])
 |box (b:Nat) (cs cs':List D) (Z:Option TypeId) (hb:H b=some (.box cs Z)) (hl:cs.length=cs'.length) (h: ∀(i:Nat) (d d':D),cs[i]? =some d→cs'[i]? =some d'→View H d d'):View H (.box b 0) (.ro cs')
 |agg (cs cs':List D) (hl:cs.length=cs'.length) (h: ∀(i:Nat) (d d':D),cs[i]? =some d→cs'[i]? =some d'→View H d d'):View H (.agg cs) (.agg cs')
 |map (b:Nat) (kvs:List (D×D)) (hb:H b=some (.map kvs)):View H (.map b) (.fm kvs)
theorem B3r{H H':Heap}{w:World}(hs:Sat H w){b:Nat}{kvs:List (D×D)}(hb:H b=some (.map kvs))(hl:H'.Le H)(hn:H'.held b=false){v:Value}(hr:R w H (.map b) v):R w H' (.fm kvs) v:=by
 obtain⟨es,ck,e,g,h,d⟩:=hs b _ hb;cases hr;exact .fm kvs b es ck e hn g h (fun i p hp=>(d i p hp).1) (fun i p hp=>(d i p hp).2.1.less hl) (fun i p hp=>(d i p hp).2.2.less hl)
theorem View.one{H:Heap}{d d':D}(h:View H d d')(ho:d.one=true):d'.one=true:=by
 cases h with
 |same=>exact ho
 |vec=>rfl
 |nil=>rfl
 |box=>rfl
 |map=>rfl
 |agg=>cases ho
theorem View.R{H:Heap}{w:World}(hs:Sat H w){d d':D}(h:View H d d'): ∀{v:Value},R w H d v→R w (roH H) d' v:=by
 induction h with
 |same d=>exact fun hr=>hr.less (A87 H)
 |vec b sz n es es' hb hn hl h1 h r=>
  intro v hr;have q:=hs.lt hb
  --the block itself
  obtain⟨c,T,x,y,u,_,C,z,G,A⟩:=hs b _ hb;cases hr with
  |vec0 b sz lo off=>
   have:es'= []:=D1x (by omega);subst this;exact .sl0 _ _ _
  |vec _ _ _ _ cap V m I J hsz L=>
   rw[hn,hl];refine .sl sz es' b _ cap (fun i j=>c.getD (i*sz+j) Go.undef) q (A3r H b) (fun i e' o=>?_) (by omega) (fun i j M O=>?_) (fun i e' j d' o g=>?_) (fun i e' j d' o g=>?_)
   ·obtain⟨e,he⟩:=G3 hl o;rw[←h1 i e e' he o];exact G i e he
   ·have h5:(i+1)*sz≤es.length*sz:=D2F _ (by omega);rw[Nat.add_mul,Nat.one_mul]at h5;rw[Nat.zero_mul,Nat.zero_add,U1 u];have hsz:i*sz+j<c.size:=by omega
    simp[hsz]
   ·obtain⟨e,he⟩:=G3 hl o;obtain⟨d,p⟩:=G3 (h1 i e e' he o) g;exact(h i e e' j d d' he o p g).one (A i e j d he p).1
   ·obtain⟨e,he⟩:=G3 hl o;obtain⟨d,p⟩:=G3 (h1 i e e' he o) g;exact r i e e' j d d' he o p g (A i e j d he p).2
 |nil sz=>intro v hr;cases hr;exact .sl0 _ _ _
 |map b kvs hb=>exact fun hr=>B3r hs hb (A87 H) (A3r H b) hr
 |box b cs cs' Z hb hl h r=>
  intro v hr;have q:=hs.lt hb;obtain⟨c,T,lo,M,u,_,C,z,_⟩:=hs b _ hb;cases hr;refine .ro cs' b 0 (fun j=>c.getD j Go.undef) q (A3r H b) (fun j O=>?_) (fun j d' g=>?_) (fun j d' g=>?_)
  ·rw[Nat.zero_add,U1 u];have:j<c.size:=by omega
   simp[this]
  ·obtain⟨d,p⟩:=G3 hl g;exact(h j d d' p g).one (z j d p).1
  ·obtain⟨d,p⟩:=G3 hl g;exact r j d d' p g (z j d p).2
 |agg cs cs' hl h r=>
  intro v hr;cases hr with
  |agg _ vs U ho hr=>
   refine .agg cs' vs (by omega) (fun i d' g=>?_) (fun i d' g=>?_)
   ·obtain⟨d,p⟩:=G3 hl g;exact(h i d d' p g).one (ho i d p)
   ·obtain⟨d,p⟩:=G3 hl g;exact r i d d' p g (hr i d p)
def B3s:D→Bool
 | .tuple ds=>ds.all B0Q
 |d=>B0Q d
theorem C34{w:World}{H H':Heap}{d:D}{v:Value}(e:B0Q d=true)(hr:R w H d v):R w H' d v:=by
 cases hr<;>first|(cases e;done)|constructor
theorem C0A{w:World}{H H':Heap}{d:D}{v:Value}(e:B3s d=true)(hr:R w H d v):R w H' d v:=by
 cases hr with
 |tuple ds vs hl hr=>exact .tuple ds vs hl fun i d g=>C34 (D2A.1 e d (D16 g)) (hr i d g)
 |_=>first|(cases e;done)|constructor
theorem B43{H e:Heap}{w w':World}{K:D→Heap→Prop}{v:Value}(hs:Sat H w)(m:e.Le H)(h:Post e w (fun d _=>B3s d=true∧K d (H.sub e)) v w'):Post H w K v w':=by
 obtain⟨d,r,hr,q,he,u,p,hk⟩:=h;have g:Ext H w w':=⟨he.os,he.tape,he.output,he.size,fun k hk hn=>he.block k hk (m.held hn),he.shape⟩
 have i:From w H (H.sub e):=fun k hk hn=>(A8w H e).held hn;refine⟨d,H.sub e,C0A p hr,fun b o hb=>?_,g,i,hk⟩;have hc:e.held b=false:=by
  unfold Heap.sub at hb;split at hb
  ·cases hb
  ·rename_i h;simpa using h
 have j:=A8w H e b o hb;exact(hs b o j).mono g i (he.block b (hs.lt j) hc)
theorem A4S{P:Program}{f:Nat}{args args':List D}{H:Heap}{Q:D→Heap→Prop}(hl:args.length=args'.length)(hv: ∀(i:Nat) d d',args[i]? =some d→args'[i]? =some d'→View H d d')
  (h:ACalls P f args' (roH H) (fun d _=>B3s d=true∧Q d H)):ACalls P f args H Q:=by
 refine⟨h.1,fun w vs h1 o j=>?_⟩;refine(h.2 w vs (by omega) (fun i d' g=>?_) (j.less (A87 H))).mono fun e w' ⟨v,he,hp⟩=>⟨v,he,B43 j (A87 H) (by rw[C3T];exact hp)⟩
 obtain⟨d,m⟩:=G3 hl g;exact(hv i d d' m g).R j (o i d m)
theorem B51{H:Heap}{n sz:Nat}{es:List (List D)}{ob:Option Nat}{ds:List D}(hn:n=es.length)(ho:OutAt H sz es ob):View H (.agg (J8 sz n ob::ds)) (.agg (.sl sz es::ds)):=by
 refine .agg _ _ rfl fun i d d' h1 g=>?_
 match i with
 |0=>
  cases h1;cases g;cases ob with
  |none=>rw[show es= []from ho];exact .nil sz
  |some b=>exact .vec b sz n es es ho hn rfl (fun i e e' h1 g=>by rw[h1]at g;cases g;rfl) (fun i e e' j d d' h1 g m h=>by rw[h1]at g;cases g;rw[m]at h;cases h;exact .same _)
 |i+1=>simp only[D15]at h1 g;rw[h1]at g;cases g;exact .same _
theorem A4R{P:Program}{f n sz:Nat}{es:List (List D)}{ob:Option Nat}{ds g:List D}{H:Heap}{Q:D→Heap→Prop}(hn:n=es.length)(ho:OutAt H sz es ob)(h:ACalls P f (.agg (.sl sz es::ds)::g) (roH H) (fun d _=>B3s d=true∧Q d H)):
  ACalls P f (.agg (J8 sz n ob::ds)::g) H Q:=by
 refine A4S (args':=.agg (.sl sz es::ds)::g) rfl (fun i d d' h1 e=>?_) h
 match i with
 |0=>cases h1;cases e;exact B51 hn ho
 |i+1=>simp only[D15]at h1 e;rw[h1]at e;cases e;exact .same _
end Go.Av
namespace Go.Proofs.YtibphjonmikciaaGreatDoor
open Go Go.Av
attribute [local irreducible] ACalls Q4
theorem A3v{H:Heap}{b d:Nat}{st:Option Nat}{bs:List UInt8}{o:Av.Obj}(h:L6 H b st bs d=none)(g:BldOk H b st bs):(L6 H b st bs).set d o=L6 (H.set d o) b st bs∧BldOk (H.set d o) b st bs∧H d=none:=by
 have h1:d≠b:=by
  rintro rfl;obtain⟨cs,e⟩:=B6l g;rw[h]at e;cases e
 have i:st≠some d:=by
  rintro rfl;have e:L6 H b (some d) bs d=some (.buf 5 bs):=by simp[L6,Heap.set]
  rw[h]at e;cases e
 rw[U9 h1 i]at h;refine⟨?_,⟨by rw[A3 _ (Ne.symm h1)];exact g.hb,g.hn,fun c e=>?_⟩,h⟩
 ·funext k
  cases st with
  |none=>
   simp only[L6,Heap.set];by_cases e1:k=d
   ·subst e1;simp[h1]
   ·simp[e1]
  |some c=>
   have j:d≠c:=fun e=>i (by rw[e]);simp only[L6,Heap.set];by_cases e1:k=d
   ·subst e1;simp[h1,j]
   ·simp[e1]
 ·obtain⟨m,p,q⟩:=g.hs c e;exact⟨m,by rw[A3 _ (fun e'=>i (by rw[e,e']))];exact p,q⟩
theorem A57{H H':Heap}{b:Nat}{st:Option Nat}{bs:List UInt8}(h:H.Le H'):(L6 H b st bs).Le (L6 H' b st bs):=by
 intro k o hk;cases st with
 |none=>
  simp only[L6,Heap.set]at hk⊢;split
  ·rename_i e;rw[if_pos e]at hk;exact hk
  ·rename_i e;rw[if_neg e]at hk;exact h k o hk
 |some c=>
  simp only[L6,Heap.set]at hk⊢;split
  ·rename_i e;rw[if_pos e]at hk;exact hk
  ·rename_i e;rw[if_neg e]at hk;split
   ·rename_i e;rw[if_pos e]at hk;exact hk
   ·rename_i e;rw[if_neg e]at hk;exact h k o hk
theorem BldOk.less{H H':Heap}{b:Nat}{st:Option Nat}{bs:List UInt8}(h:BldOk H' b st bs)(hl:H.Le H'):BldOk H b st bs:=⟨hl.none h.hb,h.hn,fun c e=>⟨(h.hs c e).1,hl.none (h.hs c e).2.1,(h.hs c e).2.2⟩⟩
theorem A2m{H:Heap}{b:Nat}{st:Option Nat}{bs:List UInt8}(h:BldOk H b st bs):H.Le (L6 H b st bs):=fun k o ho=>by
 rw[U9 (fun e=>by rw[e,h.hb]at ho;cases ho) (fun e=>by rw[(h.hs k e).2.1]at ho;cases ho)];exact ho
end Go.Proofs.YtibphjonmikciaaGreatDoor
namespace Go.Lexs
open Go.Av
def O6(c:Int):Bool:=decide (48≤c)&&decide (c≤57)
def B3t(c:Int):Bool:=(decide (97≤c)&&decide (c≤122))||(decide (65≤c)&&decide (c≤90))
def B3u(c:Int):Bool:=B3t c||O6 c||decide (c=95)
def C7p(c:Int):Bool:=decide (32≤c)&&decide (c≤126)&&decide (c≠34)&&decide (c≠92)
def C35(c:Int):Bool:=decide (c=32)||decide (c=9)||decide (c=10)||decide (c=13)
theorem U6(c:Int):O6 c=true↔48≤c∧c≤57:=by simp[O6]
def ofB(p:Int→Bool)(c:UInt8):Bool:=p (c.toNat:Int)
def C36(l:List UInt8):Bool:=l.all (ofB C7p)&&decide (l.length≤200)
theorem j8(p:Int→Bool)(l:List UInt8)(k:Nat)(hk:k<l.length):(l.take (k+1)).all (ofB p)=((l.take k).all (ofB p)&&p (I3 l k)):=by
 rw[D1s hk,D2d];simp[hk,ofB,I3]
theorem y4(p:Int→Bool)(l:List UInt8)(k:Nat)(hk:k<l.length)(h:p (I3 l k)=false):l.all (ofB p)=false:=by
 rw[List.all_eq_false];exact⟨l[k],D1n hk,by simpa [hk,ofB,I3]using h⟩
theorem nth_drop(l:List UInt8)(i k:Nat):I3 (l.drop i) k=I3 l (i+k):=by simp[I3,List.getD]
def adv(p:Int×Int)(c:UInt8):Int×Int:=if c.toNat=10 then(p.1+1,1)else(p.1,p.2+1)
def place(l:List UInt8)(i:Nat):Int×Int:=(l.take i).foldl adv (1,1)
def A9H:List UInt8→Nat
 | []=>0
 |c::r=>if c.toNat=10 then 0 else A9H r+1
def C0B(l:List UInt8):Bool:=List.isPrefixOf [47,47] l
def B6r:Nat→List UInt8→Nat
 |0,_=>0
 |_+1,[]=>0
 |n+1,c::r=>if ofB C35 c then 1+B6r n r else if C0B (c::r)then A9H (c::r)+B6r n ((c::r).drop (A9H (c::r)))else 0
def sk(l:List UInt8):Nat:=B6r l.length l
def B6s(l:List UInt8)(i:Nat):Nat:=i+sk (l.drop i)
structure Tok where
 kind:Int
 text:List UInt8
 n:Int
 deriving DecidableEq
def A3w(p:Int→Bool):List UInt8→Nat
 | []=>0
 |c::r=>if ofB p c then A3w p r+1 else 0
def C7q:List UInt8→Nat:=List.foldl (fun n c=>10*n+(c.toNat-48)) 0
def B6t(signs:List (List UInt8))(l:List UInt8):Nat:=signs.foldl (fun n s=>if n<s.length∧List.isPrefixOf s l=true then s.length else n) 0
def A6t:List UInt8→Nat
 | []=>0
 |c::r=>if c.toNat=34 then 0 else A6t r+1
def C90(signs:List (List UInt8))(l:List UInt8):Option (Tok×Nat):=
 if B3t (I3 l 0)then(if A3w B3u l≤40 then some (⟨1,l.take (A3w B3u l),0⟩,A3w B3u l)else none)
 else if O6 (I3 l 0)then
  (if C7q (l.take (A3w O6 l))≤2147483647∧¬(A3w O6 l<l.length∧B3u (I3 l (A3w O6 l))=true)then some (⟨2,[],C7q (l.take (A3w O6 l))⟩,A3w O6 l)else none)
 else if I3 l 0=34 then
  (if A6t (l.drop 1)<(l.drop 1).length∧C36 ((l.drop 1).take (A6t (l.drop 1)))=true then some (⟨3,(l.drop 1).take (A6t (l.drop 1)),0⟩,A6t (l.drop 1)+2)else none)
 else if B6t signs l=0 then none else some (⟨4,l.take (B6t signs l),0⟩,B6t signs l)
def C7r(signs:List (List UInt8))(l:List UInt8):Nat→Nat→List (Tok×Nat)→Except Nat (List (Tok×Nat))
 |0,_,acc=>.ok acc
 |f+1,i,acc=>if i<l.length then match C90 signs (l.drop i)with
  |none=>.error i
  |some (t,k)=>C7r signs l f (B6s l (i+k)) (acc++[(t,i)])
  else .ok acc
def cut(signs:List (List UInt8))(l:List UInt8):Except Nat (List (Tok×Nat)):=C7r signs l (l.length+1) (B6s l 0) []
end Go.Lexs
namespace Go.Lin
open Go Go.Av Go.Lexs
structure LTm where
 v:ByteArray
 c:Int
 deriving DecidableEq
instance :Inhabited LTm:=⟨⟨⟨#[]⟩,0⟩⟩
structure LinV where
 t:List LTm
 k:Int
 e:Bool
 deriving DecidableEq
instance :Inhabited LinV:=⟨⟨[],0,false⟩⟩
structure VlV where
 v:ByteArray
 n:Int
 deriving DecidableEq
instance :Inhabited VlV:=⟨⟨⟨#[]⟩,0⟩⟩
abbrev P2(t:LTm):List D:=[.str t.v,.int .i64 t.c]
abbrev E4(a:LinV):List D:=[.sl 2 (Rw P2 a.t),.int .i64 a.k,.bool a.e]
abbrev vlC(x:VlV):List D:=[.str x.v,.int .i64 x.n]
theorem B2g(a:LinV):E4 a= [.sl 2 (Rw P2 a.t),.int .i64 a.k,.bool a.e]:=rfl
def S8(n:Int):Prop:= -9223372036854775808≤n∧n≤9223372036854775807
structure S7(a:LinV):Prop where
 len:a.t.length≤5864062014639
 str: ∀t∈a.t,t.v.size≤140737488351232
 co: ∀t∈a.t,S8 t.c
 ko:S8 a.k
structure A72(l:List VlV):Prop where
 len:l.length≤5864062014639
 str: ∀t∈l,t.v.size≤140737488351232
 no: ∀t∈l,S8 t.n
def R3(c:Int):Bool:=decide (33≤c)&&decide (c≤126)&&decide (c≠43)&&decide (c≠45)&&decide (c≠42)&&decide (c≠60)&&decide (c≠62)&&decide (c≠61)
def G5(l:List UInt8):Bool:=decide (l≠[])&&decide (l.length≤200)&& !O6 (I3 l 0)&&l.all (ofB R3)
theorem A2n(c:Int):R3 c=true↔33≤c∧c≤126∧c≠43∧c≠45∧c≠42∧c≠60∧c≠62∧c≠61:=by simp[R3,and_assoc]
theorem A3y{c:Int}(h: ¬(33≤c∧c≤126∧c≠43∧c≠45∧c≠42∧c≠60∧c≠62∧c≠61)):R3 c=false:=by rw[←D2v,A2n];exact h
def X2(x y:ByteArray):Bool:=Op.bytesLess (B x) (B y)
theorem B6u(x:List UInt8): ∀y,Op.bytesLess x y=true↔x<y:=by
 induction x with
 |nil=>intro y;cases y<;>simp[Op.bytesLess]
 |cons a x d=>
  intro y;cases y with
  |nil=>simp[Op.bytesLess]
  |cons b y=>
   simp only[Op.bytesLess,List.cons_lt_cons_iff,D2w,D1m,D1v,beq_iff_eq,d y]
theorem A3z(x y:ByteArray):X2 x y=true↔B x<B y:=B6u _ _
theorem y5(x:ByteArray):X2 x x=false:=by
 rw[←D2v,A3z];exact List.lt_irrefl _
theorem a7{x y z:ByteArray}(h:X2 x y=true)(g:X2 y z=true):X2 x z=true:=by
 rw[A3z]at*;exact List.lt_trans h g
theorem C0C{x y:ByteArray}(h:X2 x y=false)(d:x≠y):X2 y x=true:=by
 rw[←D2v,A3z]at h;rw[A3z];have:B x≠B y:=fun e=>d (by rw[←S_B x,←S_B y,e]);by_cases g:B y<B x
 ·exact g
 ·exact absurd (List.le_antisymm (List.not_lt.1 g) (List.not_lt.1 h)) this
def J9(n most:Int):Bool:=decide (-most≤n)&&decide (n≤most)
def A2D(l:List LTm)(i:Nat):Bool:=
 G5 (B (l.getD i default).v)&&(decide (i=0)||X2 (l.getD (i-1) default).v (l.getD i default).v)&&decide ((l.getD i default).c≠0)&&J9 (l.getD i default).c 1048576
def X3(l:List LTm):Bool:=(List.range l.length).all (A2D l)
def validL(a:LinV):Bool:=X3 a.t&&decide (a.t.length≤12)&&J9 a.k 1099511627776
def up:List ByteArray→Bool
 | []=>true
 | [_]=>true
 |x::y::l=>X2 x y&&up (y::l)
def G9:List ByteArray→ByteArray→List ByteArray
 | [],s=>[s]
 |x::l,s=>if X2 x s=true then x::G9 l s else if x=s then x::l else s::x::l
def P7(l:List LinV):List ByteArray:=l.flatMap fun c=>c.t.map (·.v)
def A2E(l:List LinV):List ByteArray:=(P7 l).foldl G9 []
theorem A73(l:List ByteArray)(s x:ByteArray):x∈G9 l s↔x∈l∨x=s:=by
 induction l with
 |nil=>simp[G9]
 |cons y l d=>
  unfold G9;split
  ·simp only[D11,d];constructor
   ·rintro(h|h|h)
    ·exact .inl (.inl h)
    ·exact .inl (.inr h)
    ·exact .inr h
   ·rintro((h|h)|h)
    ·exact .inl h
    ·exact .inr (.inl h)
    ·exact .inr (.inr h)
  ·split
   ·rename_i e;subst e;simp only[D11];constructor
    ·exact .inl
    ·rintro(h|h)
     ·exact h
     ·exact .inl h
   ·simp only[D11];constructor
    ·rintro(h|h)
     ·exact .inr h
     ·exact .inl h
    ·rintro(h|h)
     ·exact .inr h
     ·exact .inl h
theorem B6v{l:List ByteArray}{s:ByteArray}(h:l.Pairwise fun x y=>X2 x y=true):(G9 l s).Pairwise fun x y=>X2 x y=true:=by
 induction l with
 |nil=>exact List.pairwise_singleton _ _
 |cons y l i=>
  unfold G9;split
  ·rename_i h1;refine List.Pairwise.cons (fun z d=>?_) (i h.of_cons);rcases(A73 _ _ _).1 d with g|rfl
   ·exact List.rel_of_pairwise_cons h g
   ·exact h1
  ·rename_i h1;split
   ·exact h
   ·rename_i j;have e:=C0C (D2v _ ▸ h1) j;refine List.Pairwise.cons (fun z d=>?_) h;rcases D11.1 d with rfl|d
    ·exact e
    ·exact a7 e (List.rel_of_pairwise_cons h d)
theorem B0x(m:List ByteArray): ∀(l:List ByteArray),l.Pairwise (fun x y=>X2 x y=true)→(m.foldl G9 l).Pairwise fun x y=>X2 x y=true:=by
 induction m with
 |nil=>exact fun l h=>h
 |cons s m d=>exact fun l h=>d _ (B6v h)
theorem A74(m:List ByteArray)(x:ByteArray): ∀(l:List ByteArray),x∈m.foldl G9 l↔x∈l∨x∈m:=by
 induction m with
 |nil=>intro l;simp
 |cons s m d=>
  intro l;rw[List.foldl_cons,d,A73,D11,or_assoc]
theorem B0y(l:List LinV):(A2E l).Pairwise fun x y=>X2 x y=true:=B0x _ _ .nil
theorem A75(l:List LinV)(x:ByteArray):x∈A2E l↔x∈P7 l:=by unfold A2E;rw[A74];simp
theorem A6u: ∀{l m:List ByteArray},l.Pairwise (fun x y=>X2 x y=true)→m.Pairwise (fun x y=>X2 x y=true)→(∀x,x∈l↔x∈m)→l=m
 | [],[],_,_,_=>rfl
 | [],y::m,_,_,h=>absurd ((h y).2 (D1k ..)) (by simp)
 |x::l,[],_,_,h=>absurd ((h x).1 (D1k ..)) (by simp)
 |x::l,y::m,hl,hm,h=>by
  have e:x=y:=by
   rcases D11.1 ((h x).1 (D1k ..))with e|g
   ·exact e
   ·rcases D11.1 ((h y).2 (D1k ..))with e|i
    ·exact e.symm
    ·have a1:=List.rel_of_pairwise_cons hm g;have a2:=List.rel_of_pairwise_cons hl i;have:=a7 a1 a2;rw[y5]at this;cases this
  subst e;refine congrArg (x:: ·) (A6u hl.of_cons hm.of_cons fun z=>?_);constructor
  ·intro d;rcases D11.1 ((h z).1 (D1r _ d))with rfl|g
   ·have:=List.rel_of_pairwise_cons hl d;rw[y5]at this;cases this
   ·exact g
  ·intro d;rcases D11.1 ((h z).2 (D1r _ d))with rfl|g
   ·have:=List.rel_of_pairwise_cons hm d;rw[y5]at this;cases this
   ·exact g
end Go.Lin
namespace Go.Fo
open Go Go.Av Go.Lexs Go.Lin
inductive Fm where
 |mk (op:Int) (n:Int) (l:LinV) (s:ByteArray) (ks:List Fm)
namespace Fm
def op:Fm→Int|mk o _ _ _ _=>o
def n:Fm→Int|mk _ n _ _ _=>n
def l:Fm→LinV|mk _ _ l _ _=>l
def s:Fm→ByteArray|mk _ _ _ s _=>s
def ks:Fm→List Fm|mk _ _ _ _ ks=>ks
end Fm
theorem C5D(f:Fm):f= .mk f.op f.n f.l f.s f.ks:=by cases f;rfl
def B9:Fm→List D
 | .mk o n l s ks=>[.int .i64 o,.int .i64 n,.sl 2 (Rw P2 l.t),.int .i64 l.k,.bool l.e,.str s,.sl 7 (fmsC ks)]
where fmsC:List Fm→List (List D)
 | []=>[]
 |f::fs=>B9 f::fmsC fs
theorem C0D(l:List Fm):B9.fmsC l=Rw B9 l:=by
 induction l with
 |nil=>rfl
 |cons f l d=>simp only[B9.fmsC,d];rfl
theorem O7(f:Fm):B9 f= [.int .i64 f.op,.int .i64 f.n,.sl 2 (Rw P2 f.l.t),.int .i64 f.l.k,.bool f.l.e,.str f.s,.sl 7 (Rw B9 f.ks)]:=by
 cases f;simp only[B9,C0D];rfl
theorem R4{p:Fm→Prop}(h: ∀o n l s ks,(∀k∈ks,p k)→p (.mk o n l s ks)): ∀f,p f
 | .mk o n l s ks=>h o n l s ks (go ks)
where go: ∀ks:List Fm,∀k∈ks,p k
 | [],_,hk=>absurd hk D12
 |f::fs,k,hk=>(D11.1 hk).elim (fun e=>e ▸ R4 h f) (go fs k)
inductive FmFit:Fm→Prop
 |mk (o n:Int) (l:LinV) (s:ByteArray) (ks:List Fm) (ho:S8 o) (hn:S8 n) (hl:S7 l) (hs:s.size≤140737488351232) (hk:ks.length≤1466015503658) (h: ∀k∈ks,FmFit k):FmFit (.mk o n l s ks)
def a8(c:Int):Bool:=decide (c≠40)&&decide (c≠41)&&decide (c≠44)&&decide (c≠33)&&decide (c≠38)&&decide (c≠124)&&decide (c≠63)
def plainB(s:ByteArray):Bool:=G5 (B s)&&(B s).all (ofB a8)
def lin0(l:LinV):Bool:=decide (l.t= [])&&decide (l.k=0)&& !l.e
def D5(f:Fm):Bool:=
 if f.op=1 then(decide (f.n=0)||decide (f.n=1))&&decide (f.s.size=0)&&lin0 f.l&&f.ks.isEmpty
 else if f.op=2 then decide (f.n=0)&&decide (f.s.size=0)&&f.ks.isEmpty&&validL f.l&&f.l.t.all fun t=>plainB t.v
 else if f.op=3 then decide (f.n=0)&&lin0 f.l&&f.ks.isEmpty&&plainB f.s
 else if f.op=4 then decide (f.n=0)&&decide (f.s.size=0)&&lin0 f.l&&decide (f.ks.length=1)
 else if f.op=5∨f.op=6 then decide (f.n=0)&&decide (f.s.size=0)&&lin0 f.l
 else false
def F4:Fm→Nat
 | .mk _ _ _ _ ks=>1+nodesL ks
where nodesL:List Fm→Nat
 | []=>0
 |f::fs=>F4 f+nodesL fs
def N4:Fm→Nat
 | .mk _ _ _ _ ks=>1+deepL ks
where deepL:List Fm→Nat
 | []=>0
 |f::fs=>max (N4 f) (deepL fs)
def G8(p:Fm→Bool):Fm→Bool
 | .mk o n l s ks=>p (.mk o n l s ks)&&allK ks
where allK:List Fm→Bool
 | []=>true
 |f::fs=>G8 p f&&allK fs
def A0v:Fm→List ByteArray×List ByteArray→List ByteArray×List ByteArray
 | .mk o _ l s ks,(a,b)=>namesK ks ((l.t.map (·.v)).foldl G9 a,if o=3 then G9 b s else b)
where namesK:List Fm→List ByteArray×List ByteArray→List ByteArray×List ByteArray
 | [],p=>p
 |f::fs,p=>namesK fs (A0v f p)
def meetL(l m:List ByteArray):Bool:=l.any fun s=>m.any fun t=>decide (s=t)
def E3(f:Fm):Bool:=G8 D5 f&&decide (N4 f≤60)&&decide (F4 f≤200)&& !meetL (A0v f ([],[])).1 (A0v f ([],[])).2&&decide ((A0v f ([],[])).1.length+(A0v f ([],[])).2.length≤12)
end Go.Fo
