/- Part of the proof: what the last text builds on. No condition stands here. -/
import Derived.Test.YtibphjonmikciaaGreatDoorProg
import Derived.Test.YtibphjonmikciaaGreatDoorRows
import Derived.Test.YtibphjonmikciaaGreatDoorCards
import Derived.Test.YtibphjonmikciaaGreatDoorTie
import Derived.Test.YtibphjonmikciaaGreatDoorOc1
set_option linter.unusedSimpArgs false
set_option linter.unusedVariables false
namespace Go.Av
abbrev FEnv:=Nat→D
def FEnv.put(F:FEnv):Option Nat→D→FEnv
 |some t,d=>fun k=>if t=k then d else F k
 |none,_=>F
def FEnv.ev(F:FEnv):Operand→D
 | .tmp t=>F t
 | .const v=>D.ofValue v
 | .global g=>.glob g
 | .func f=>.fn (.func f) [] []
def S6:D→List Nat
 | .vec b _ _ _| .box b _=>[b]
 |_=>[]
def rdB:D→List Nat
 | .box b _| .el b _ _ _| .vec b _ _ _| .map b| .glob b=>[b]
 | .fn _ as_ bs=>(as_++bs).flatMap S6
 |_=>[]
theorem A1f{d:D}{b:Nat}(h:b∈S6 d):b∈rdB d:=by cases d<;>simp_all[S6,rdB]
structure Ef where
 rd:List Nat
 del:List Nat
 new:Option Obj
 at_:Option Nat
 val:Nat→D
def Ef.app(e:Ef)(b:Nat)(H:Heap):Heap:=match e.new with
 |none=>H.minus e.del
 |some o=>(H.minus e.del).set b o
def Ef.okB(e:Ef)(b:Nat)(U:Nat→Prop):Prop:=match e.new,e.at_ with
 |none,_=>True
 |some _,some c=>b=c
 |some _,none=>¬U b∨b∈e.del
def Ef.used(e:Ef)(b:Nat)(U:Nat→Prop):Nat→Prop:=match e.new with
 |none=>U
 |some _=>fun k=>U k∨k=b
def B09(o:Option Obj):Bool:=match o with
 |some o=>o.rw
 |none=>false
structure Bl where
 l:List Nat
 no:List Nat:=[]
 may:List Nat:=[]
def A3y(Bi Bj:Bl):Prop:=(∀b∈Bj.l,b∉Bj.no→b∈Bi.l∧b∉Bi.may)∧∀b∈Bi.l,b∉Bi.no→b∈Bj.l∧b∉Bj.may
structure A5e(bl:Bl)(H:Heap)(e:Ef):Prop where
 rd: ∀b∈e.rd,(b∈bl.l∧H b≠none)∧b∉bl.no
 del: ∀b∈e.del,(e.at_=none→b∉bl.l∨b∈bl.may)∧B09 (H b)=true
 new: ∀o,e.new=some o→o.rw=true
 at_: ∀b,e.at_=some b→b∈e.del
def val(d:D)(rd:List Nat):Ef:=⟨rd,[],none,none,fun _=>d⟩
def A0i(f:Nat→D)(o:Obj):Ef:=⟨[],[],some o,none,f⟩
def R3(bl:List Nat)(l:List Nat):List Nat:=l.filter fun b=> !bl.contains b
def inB(bl:List Nat)(l:List Nat):List Nat:=l.filter fun b=>bl.contains b
def B1A(P:Program)(bl:List Nat)(H:Heap)(t t':TypeId)(s x:D):Option Ef:=(G3 P t).bind fun T=>
 if 0<T.2.1∧(C6 P t'= .slice∨C6 P t'= .str)∧(G1 P T.1).map (·.length)=some T.2.1 then(M3 H T.2.1 x).bind fun xs=>match s with
  | .nilsl=>if xs.length*T.2.2≤140737488355328∧xs.length≤9223372036854775807∧xs.isEmpty=false then some ⟨inB bl (S6 x),R3 bl (S6 x),some (.vec T.2.1 xs),none,fun b=>.vec b T.2.1 0 xs.length⟩else none
  | .vec b sz' lo n=>match H b with
   |some (.vec sz'' es)=>if sz'=T.2.1∧sz''=T.2.1∧lo=0∧n≤es.length∧(n+xs.length)*T.2.2≤140737488355328∧n+xs.length≤9223372036854775807 then
     some ⟨inB bl (S6 x),b::R3 bl (S6 x),some (.vec T.2.1 (es.take n++xs)),none,fun b'=>.vec b' T.2.1 0 (n+xs.length)⟩else none
   |_=>none
  |_=>none else none
def bsE(P:Program)(t:TypeId)(len:Nat)(ps:List (Nat×D)):Option Ef:=(G3 P t).bind fun T=>if 0<T.2.1∧len*T.2.1≤16777216 then(G1 P T.1).bind fun z=>
 if z.length=T.2.1 then(A3q (List.replicate len z) ps).map fun es=>A0i (fun b=>.vec b T.2.1 0 len) (.vec T.2.1 es)else none else none
def msE(P:Program)(t:TypeId)(l c:D):Option Ef:=(G3 P t).bind fun T=>if 0<T.2.1 then(G1 P T.1).bind fun z=>match l,c with
 | .int _ n,.int _ m=>if z.length=T.2.1∧0≤n∧n≤m∧(T.2.2:Int)*m≤281474976710656∧m<9223372036854775808 then some (A0i (fun b=>.vec b T.2.1 0 n.toNat) (.vec T.2.1 (List.replicate n.toNat z)))else none
 |_,_=>none else none
theorem A45{P:Program}{t:TypeId}{l c:D}{e:Ef}(h:msE P t l c=some e): ∃e' sz d z k n i m,G3 P t=some (e',sz,d)∧0<sz∧G1 P e'=some z∧z.length=sz∧l= .int k n∧c= .int i m∧0≤n∧n≤m∧(d:Int)*m≤281474976710656∧m<9223372036854775808∧
  e=A0i (fun b=>.vec b sz 0 n.toNat) (.vec sz (List.replicate n.toNat z)):=by
 unfold msE at h;obtain⟨⟨e',sz,d⟩,j,h⟩:=C91.1 h;split at h
 ·rename_i h1;obtain⟨z,o,h⟩:=C91.1 h;split at h
  ·split at h
   ·rename_i g;cases h;exact⟨e',sz,d,z,_,_,_,_,j,h1,o,g.1,rfl,rfl,g.2.1,g.2.2.1,g.2.2.2.1,g.2.2.2.2,rfl⟩
   ·cases h
  ·cases h
 ·cases h
theorem C1m{P:Program}{t:TypeId}{e' sz d:Nat}{z:List D}{k e:IntKind}{n m:Int}(g:G3 P t=some (e',sz,d))(h1:0<sz)(h:G1 P e'=some z)(i:z.length=sz)(j:0≤n)(o:n≤m)(h5:(d:Int)*m≤281474976710656)(p:m<9223372036854775808):
  msE P t (.int k n) (.int e m)=some (A0i (fun b=>.vec b sz 0 n.toNat) (.vec sz (List.replicate n.toNat z))):=by
 unfold msE;rw[g,D0J,if_pos h1,h,D0J];simp only[];rw[if_pos ⟨i,j,o,h5,p⟩]
def j4(P:Program)(t:TypeId)(a x:D)(H:Heap):Option Ef:=(X3 P t a x H).bind fun H'=>match a with
 | .box b _| .el b _ _ _=>(H' b).map fun o=>⟨[],[b],some o,some b,fun _=>.undef⟩
 |_=>none
structure CR where
 new:Option Obj
 val:Nat→D
def CR.c(d:D):CR:=⟨none,fun _=>d⟩
def CR.f(c:CR):Nat→D:=match c.new with
 |none=>fun _=>c.val 0
 |some _=>c.val
def CR.mk'(f:Nat→D)(o:Obj):CR:=⟨some o,f⟩
def H8(P:Program)(c:CR)(bl:List Nat)(ev:Operand→D)(H:Heap)(op:Op):Option Ef:=match op with
 | .load t x=>(q9 P t (ev x) H).map fun d=>val d (rdB (ev x))
 | .lookup t m k ok=>(A06 P t (ev m) (ev k) ok H).map fun d=>val d (rdB (ev m))
 | .alloc t=>(G1 P t).map fun z=>A0i (fun b=>.box b 0) (.box z (A1X P t))
 | .box _ x=>if(ev x).cells.all D.one=true then some (A0i (fun b=>.box b 0) (.box (ev x).cells))else none
 | .buildSlice t len parts=>bsE P t len (parts.toList.map fun p=>(p.1,ev p.2))
 | .makeSlice t l c=>msE P t (ev l) (ev c)
 | .makeMap _ none=>some (A0i (fun b=>.map b) (.map []))
 | .store t a x=>j4 P t (ev a) (ev x) H
 | .call ⟨.builtin .append,args,ts⟩=>match ts.toList,args.toList with
  | [t,t'],[s,x]=>B1A P bl H t t' (ev s) (ev x)
  |_,_=>none
 | .call ⟨.value f,args,ts⟩=>match ev f with
  | .fn (.func _) first cap=>some ⟨inB bl ((first++args.toList.map ev++cap).flatMap S6),R3 bl ((first++args.toList.map ev++cap).flatMap S6),c.new,none,c.f⟩
  |_=>none
 |_=>none
def j5(P:Program)(c:CR)(bl:List Nat)(ev:Operand→D)(H:Heap)(op:Op):Option Ef:=if I5 P op= .pure then(K2 P ev op).map fun d=>val d []else H8 P c bl ev H op
def CR.post(c:CR)(H':Heap)(del:List Nat)(d:D)(H'':Heap):Prop:=match c.new with
 |none=>d=c.val 0∧(H'.minus del).Le H''
 |some o=>∃b,(H' b=none∨b∈del)∧d=c.val b∧((H'.minus del).set b o).Le H''
def B41(P:Program)(g:Nat)(as_:List D)(H:Heap)(foot del:List Nat)(c:CR):Prop:=
 ∀H':Heap,(∀k cs,H k=some (.ro cs)→H' k=some (.ro cs))→(∀b∈foot,H' b=H b)→ACalls P g as_ H' (c.post H' del)
def N9(P:Program)(c:CR)(bl:List Nat)(ev:Operand→D)(H:Heap)(op:Op):Prop:=match op with
 | .call ⟨.value f,args,ts⟩=>match ev f with
  | .fn (.func g) first cap=>B41 P g (first++args.toList.map ev++cap) H ((first++args.toList.map ev++cap).flatMap S6) (R3 bl ((first++args.toList.map ev++cap).flatMap S6)) c
  |_=>False
 |_=>True
section
variable {P:Program} {c:CR} {bl:List Nat} {bb Bi Bj:Bl} {ev ev':Operand→D} {H H':Heap}
theorem j6{l:List Nat}{b:Nat}:b∈inB bl l↔b∈l∧b∈bl:=by simp[inB]
theorem R4{l:List Nat}{b:Nat}:b∈R3 bl l↔b∈l∧b∉bl:=by simp[R3]
theorem A2g{l:List Operand}(h: ∀x∈l,ev x=ev' x):l.map ev=l.map ev':=List.map_congr_left h
theorem A5f{l:List (Nat×Operand)}(h: ∀x∈l.map (·.2),ev x=ev' x):(l.map fun p=>(p.1,ev p.2))=l.map fun p=>(p.1,ev' p.2):=
 List.map_congr_left fun p hp=>by rw[h p.2 (D0n.2 ⟨p,hp,rfl⟩)]
theorem A1g{op:Op}(hc:I5 P op= .pure)(h: ∀x∈op.operands.toList,ev x=ev' x):K2 P ev op=K2 P ev' op:=by
 cases op
 case build t parts=>
  simp only[K2,A5f (ev:=ev) (ev':=ev') (l:=parts.toList) (fun x hx=>h x (by simpa [Op.operands]using hx))]
 case slice t x lo hi m=>
  have hx:=h x (by simp[Op.operands]);have j:lo.map ev=lo.map ev':=by
   cases lo with
   |none=>rfl
   |some l=>simp only[Option.map_some,h l (by simp[Op.operands])]
  have o:hi.map ev=hi.map ev':=by
   cases hi with
   |none=>rfl
   |some l=>simp only[Option.map_some,h l (by simp[Op.operands])]
  cases m<;>simp only[K2,hx,j,o]
 case makeFunc fn first cap=>
  simp only[K2,A2g (l:=first.toList) (fun x hx=>h x (by simp[Op.operands];exact .inl (by simpa using hx))),A2g (l:=cap.toList) (fun x hx=>h x (by simp[Op.operands];exact .inr (by simpa using hx)))]
 case call cc=>
  obtain⟨callee,args,g⟩:=cc;cases callee with
  |value f=>simp[I5]at hc
  |invoke r m=>simp[I5]at hc
  |builtin b=>
   have i: ∀x∈args.toList,ev x=ev' x:=fun x hx=>h x (by simp[Op.operands,Call.operands]at*;exact hx);cases b<;>try(simp[I5]at hc;done)
   case len=>
    simp only[K2];cases h1:g[0]? with
    |none=>rfl
    |some t=>
     cases p:args[0]? with
     |none=>rfl
     |some x=>simp only[i x (by rw[D0U];exact Array.mem_of_getElem? p)]
   case cap=>
    simp only[K2];cases h1:g[0]? with
    |none=>rfl
    |some t=>
     cases p:args[0]? with
     |none=>rfl
     |some x=>simp only[Option.map_some,i x (by rw[D0U];exact Array.mem_of_getElem? p)]
   case min=>simp only[K2,A2g i]
   case max=>simp only[K2,A2g i]
 all_goals first
  |rfl
  |(simp only[Op.operands,Array.toList_toArray,D0H,D0I,or_false,d,e]at h;simp only[K2,h];done)
  |(simp only[Op.operands]at h;simp at h;simp only[K2,h];done)
  |(simp[I5]at hc;done)
theorem S7{op:Op}(hc:I5 P op= .pure):j5 P c bl ev H op=(K2 P ev op).map fun d=>val d []:=if_pos hc
theorem I0{op:Op}(hc:I5 P op≠ .pure):j5 P c bl ev H op=H8 P c bl ev H op:=if_neg hc
theorem s9{op:Op}(h: ∀x∈op.operands.toList,ev x=ev' x):j5 P c bl ev H op=j5 P c bl ev' H op:=by
 by_cases hc:I5 P op= .pure
 ·rw[S7 hc,S7 hc,A1g hc h]
 ·rw[I0 hc,I0 hc];cases op
  case load t x=>simp only[H8,h x (by simp[Op.operands])]
  case lookup t m k ok=>simp only[H8,h m (by simp[Op.operands]),h k (by simp[Op.operands])]
  case box t x=>simp only[H8,h x (by simp[Op.operands])]
  case makeSlice t l c=>simp only[H8,h l (by simp[Op.operands]),h c (by simp[Op.operands])]
  case buildSlice t n parts=>simp only[H8,A5f (ev:=ev) (ev':=ev') (l:=parts.toList) (fun x hx=>h x (by simpa [Op.operands]using hx))]
  case store t a x=>simp only[H8,h a (by simp[Op.operands]),h x (by simp[Op.operands])]
  case call cc=>
   obtain⟨callee,args,e⟩:=cc;cases callee with
   |value f=>
    have g:=h f (by simp[Op.operands,Call.operands]);have i:=A2g (ev:=ev) (ev':=ev') (l:=args.toList) (fun x hx=>h x (by simp[Op.operands,Call.operands];exact .inr (by simpa using hx)));simp only[H8,g,i]
   |invoke r m=>simp[H8]
   |builtin b=>
    cases b
    case append=>
     unfold H8;simp only;split
     ·rename_i t j s x h1 d;rw[h s (by simp[Op.operands,Call.operands,←D0U,d]),h x (by simp[Op.operands,Call.operands,←D0U,d])]
     ·rfl
    all_goals rfl
  case makeMap t r=>cases r<;>simp[H8]
  all_goals first
   |rfl
theorem j7{op:Op}(h: ∀x∈op.operands.toList,ev x=ev' x):N9 P c bl ev H op=N9 P c bl ev' H op:=by
 cases op
 case call cc=>
  obtain⟨callee,args,d⟩:=cc;cases callee with
  |value f=>
   have e:=h f (by simp[Op.operands,Call.operands]);have g:=A2g (ev:=ev) (ev':=ev') (l:=args.toList) (fun x hx=>h x (by simp[Op.operands,Call.operands];exact .inr (by simpa using hx)));simp only[N9,e,g]
  |_=>rfl
 all_goals rfl
def B2I(ev:Operand→D)(op:Op):List Nat:=op.operands.toList.flatMap fun x=>rdB (ev x)
theorem M6{op:Op}{x:Operand}{b:Nat}(hx:x∈op.operands.toList)(hb:b∈rdB (ev x)):b∈B2I ev op:=List.mem_flatMap.2 ⟨x,hx,hb⟩
theorem A9T{sz:Nat}{x:D}{es:List (List D)}(h:M3 H sz x=some es)(d: ∀b∈S6 x,H' b=H b):M3 H' sz x=some es:=by
 cases x<;>simp only[M3]at h⊢ <;>try exact h
 rename_i b s lo n;rw[d b (by simp[S6])];exact h
theorem A6x{x:D}{cs:List D}(h:A3p H x=some cs)(d: ∀b∈rdB x,H' b=H b):A3p H' x=some cs:=by
 cases x<;>simp only[A3p]at h⊢ <;>try exact h
 all_goals (rw[d _ (by simp[rdB])];exact h)
theorem B3Z{x:D}{kvs:List (D×D)}(h:W6 H x=some kvs)(d: ∀b∈rdB x,H' b=H b):W6 H' x=some kvs:=by
 cases x<;>simp only[W6]at h⊢ <;>try exact h
 all_goals (rw[d _ (by simp[rdB])];exact h)
theorem A2h{op:Op}{e:Ef}(h:j5 P c bl ev H op=some e)(q: ∀b,b∈e.rd∨b∈e.del→H' b=H b):j5 P c bl ev H' op=some e:=by
  by_cases hc:I5 P op= .pure
  · rw[S7 hc]at h⊢;exact h
  · rw[I0 hc]at h⊢
    cases op
    case load t x=>
      simp only[H8,C9y]at h⊢;obtain⟨d,g,rfl⟩:=h;refine⟨d,?_,rfl⟩;unfold q9 at g⊢;obtain⟨s,hs,g⟩:=C91.1 g;obtain⟨cs,u,g⟩:=C91.1 g;rw[hs,D0J,A6x u (fun b hb=>q b (.inl hb))];exact g
    case lookup t m k ok=>
      simp only[H8,C9y]at h⊢;obtain⟨d,g,rfl⟩:=h;refine⟨d,?_,rfl⟩;unfold A06 at g⊢;obtain⟨T,U,g⟩:=C91.1 g;rw[U,D0J];split at g
      · rename_i hk
        rw[if_pos hk];obtain⟨z,X,g⟩:=C91.1 g;obtain⟨kvs,I,g⟩:=C91.1 g;rw[X,D0J,B3Z I (fun b hb=>q b (.inl hb))];exact g
      · cases g
    case alloc t=>exact h
    case box t x=>exact h
    case makeSlice t l c=>exact h
    case buildSlice t n parts=>exact h
    case store t a x=>
      simp only[H8,j4]at h⊢;obtain⟨Y,hs,h⟩:=C91.1 h
      have key: ∀b,(ev a= .box b 0∨True)→rdB (ev a)= [b]→H' b=H b→∃O,X3 P t (ev a) (ev x) H'=some O∧O b=Y b:=by
        intro b _ J hb;unfold X3 at hs⊢;split at hs
        · rename_i j
          rw[if_pos j];split at hs
          · rename_i L off y
            have : L = b := by have:rdB (ev a)= [L]:=by rw[y];rfl
                               rw[J]at this;simpa using this.symm
            subst this;rw[hb];split at hs
            · rename_i cs Z u
              split at hs
              · rename_i A
                cases hs;refine⟨_,by rw[if_pos A],?_⟩;simp[Heap.set]
              · cases hs
            · cases hs
          · rename_i L sz i off y
            have : L = b := by have:rdB (ev a)= [L]:=by rw[y];rfl
                               rw[J]at this;simpa using this.symm
            subst this;rw[hb];split at hs
            · rename_i sz' es u
              split at hs
              · rename_i A
                cases hs;refine⟨_,by rw[if_pos A],?_⟩;simp[Heap.set]
              · cases hs
            · cases hs
          · cases hs
        · cases hs
      cases C:ev a with
      |box b off=>
        rw[C]at h;simp only at h;obtain⟨o,ho,rfl⟩:=C9y.1 h;obtain⟨O,G,V⟩:=key b (.inr trivial) (by rw[C];rfl) (q b (.inr (by simp)));rw[C]at G;rw[G,D0J];simp only[V,ho,Option.map_some]
      |el b sz i off=>
        rw[C]at h;simp only at h;obtain⟨o,ho,rfl⟩:=C9y.1 h;obtain⟨O,G,V⟩:=key b (.inr trivial) (by rw[C];rfl) (q b (.inr (by simp)));rw[C]at G;rw[G,D0J];simp only[V,ho,Option.map_some]
      |_=>rw[C]at h;simp at h
    case call cc=>
      obtain⟨callee,args,a0⟩:=cc;cases callee with
      |value f=>exact h
      |invoke r m=>simp[H8]at h
      |builtin b=>
        cases b
        case append=>
          unfold H8 at h⊢;simp only at h⊢;split at h
          · rename_i t t' s x h1 G
            unfold B1A at h⊢;obtain⟨T,U,h⟩:=C91.1 h;rw[U,D0J];split at h
            · rename_i j
              rw[if_pos j];obtain⟨xs,W,h⟩:=C91.1 h;have hx: ∀b,b∈S6 (ev x)→(b∈e.rd∨b∈e.del)→H' b=H b:=fun b _ hb=>q b hb
              have M: ∀b∈S6 (ev x),b∈e.rd∨b∈e.del:=by
                intro b hb;split at h
                · split at h
                  · cases h
                    by_cases p:b∈bl
                    · exact .inl (j6.2 ⟨hb,p⟩)
                    · exact .inr (R4.2 ⟨hb,p⟩)
                  · cases h
                · split at h
                  · split at h
                    · cases h
                      by_cases p:b∈bl
                      · exact .inl (j6.2 ⟨hb,p⟩)
                      · exact .inr (C97 _ (R4.2 ⟨hb,p⟩))
                    · cases h
                  · cases h
                · cases h
              rw[A9T W (fun b hb=>q b (M b hb)),D0J];cases hs:ev s with
              |vec b sz' lo n=>
                rw[hs]at h;simp only at h⊢
                have hb:H' b=H b:=by
                  split at h
                  · split at h
                    · cases h;exact q b (.inr (by simp))
                    · cases h
                  · cases h
                rw[hb];exact h
              |_=>rw[hs]at h;exact h
            · cases h
          · cases h
        all_goals cases h
    case makeMap t r=>
      cases r with
      |none=>exact h
      |some r=>simp[H8]at h
    all_goals cases h
theorem A3D{op:Op}{e:Ef}(h:N9 P c bl ev H op)(hr:j5 P c bl ev H op=some e)(hro: ∀k cs,H' k=some (.ro cs)→H k=some (.ro cs))(d: ∀k cs,H k=some (.ro cs)→H' k=some (.ro cs))(j: ∀b,b∈e.rd∨b∈e.del→H' b=H b):N9 P c bl ev H' op:=by
 cases op
 case call cc=>
  obtain⟨callee,args,m⟩:=cc;cases callee with
  |value f=>
   rw[I0 (by simp[I5])]at hr;simp only[N9,H8]at h hr⊢;split at h
   ·rename_i g first cap hf
    rw[hf]at hr;simp only[D0R]at hr;subst hr;intro o h1 p;refine h o (fun k cs hk=>h1 k cs (d k cs hk)) (fun b hb=>?_);rw[p b hb];by_cases i:b∈bl
    ·exact j b (.inl (j6.2 ⟨hb,i⟩))
    ·exact j b (.inr (R4.2 ⟨hb,i⟩))
   ·exact h
  |_=>exact h
 all_goals exact h
theorem B3a{op:Op}{e:Ef}(h:j5 P c bl ev H op=some e): ∀b,b∈e.rd∨b∈e.del→b∈B2I ev op:=by
 by_cases hc:I5 P op= .pure
 ·rw[S7 hc]at h;obtain⟨d,_,rfl⟩:=C9y.1 h;intro b hb;simp[val]at hb
 ·rw[I0 hc]at h;cases op
  case load t x=>
   simp only[H8,C9y]at h;obtain⟨d,j,rfl⟩:=h;intro b hb;simp[val]at hb;exact M6 (x:=x) (by simp[Op.operands]) hb
  case lookup t m k ok=>
   simp only[H8,C9y]at h;obtain⟨d,j,rfl⟩:=h;intro b hb;simp[val]at hb;exact M6 (x:=m) (by simp[Op.operands]) hb
  case alloc t=>
   simp only[H8,C9y]at h;obtain⟨d,j,rfl⟩:=h;intro b hb;simp[A0i]at hb
  case box t x=>
   simp only[H8]at h;split at h
   ·cases h;intro b hb;simp[A0i]at hb
   ·cases h
  case makeSlice t l c=>
   simp only[H8]at h;obtain⟨_,_,_,_,_,_,_,_,_,_,_,_,_,_,_,_,_,_,rfl⟩:=A45 h;intro b hb;simp[A0i]at hb
  case buildSlice t n parts=>
   simp only[H8,bsE]at h;obtain⟨T,G,h⟩:=C91.1 h;split at h
   ·obtain⟨z,L,h⟩:=C91.1 h;split at h
    ·obtain⟨es,I,rfl⟩:=C9y.1 h;intro b hb;simp[A0i]at hb
    ·cases h
   ·cases h
  case store t a x=>
   simp only[H8,j4]at h;obtain⟨M,hs,h⟩:=C91.1 h;cases q:ev a with
   |box b off=>
    rw[q]at h;simp only at h;obtain⟨o,ho,rfl⟩:=C9y.1 h;intro k hk;simp at hk;subst hk;exact M6 (x:=a) (by simp[Op.operands]) (by rw[q];simp[rdB])
   |el b sz i off=>
    rw[q]at h;simp only at h;obtain⟨o,ho,rfl⟩:=C9y.1 h;intro k hk;simp at hk;subst hk;exact M6 (x:=a) (by simp[Op.operands]) (by rw[q];simp[rdB])
   |_=>rw[q]at h;simp at h
  case call cc=>
   obtain⟨callee,args,u⟩:=cc;cases callee with
   |value f=>
    simp only[H8]at h;split at h
    ·rename_i g first cap hf
     cases h;intro b hb;have y:b∈(first++args.toList.map ev++cap).flatMap S6:=by
      rcases hb with hb|hb
      ·exact(j6.1 hb).1
      ·exact(R4.1 hb).1
     obtain⟨d,j,p⟩:=List.mem_flatMap.1 y;simp only[D0F,D0n]at j;rcases j with(j|⟨x,hx,rfl⟩)|j
     ·exact M6 (x:=f) (by simp[Op.operands,Call.operands]) (by rw[hf];exact List.mem_flatMap.2 ⟨d,by simp[j],p⟩)
     ·exact M6 (x:=x) (by simp[Op.operands,Call.operands];exact .inr (by simpa using hx)) (A1f p)
     ·exact M6 (x:=f) (by simp[Op.operands,Call.operands]) (by rw[hf];exact List.mem_flatMap.2 ⟨d,by simp[j],p⟩)
    ·cases h
   |invoke r m=>simp[H8]at h
   |builtin b=>
    cases b
    case append=>
     unfold H8 at h;simp only at h;split at h
     ·rename_i t O s x h1 C;have hs:s∈(Op.call ⟨.builtin .append,args,u⟩).operands.toList:=by simp[Op.operands,Call.operands,←D0U,C]
      have hx:x∈(Op.call ⟨.builtin .append,args,u⟩).operands.toList:=by simp[Op.operands,Call.operands,←D0U,C]
      unfold B1A at h;obtain⟨T,G,h⟩:=C91.1 h;split at h
      ·obtain⟨xs,J,h⟩:=C91.1 h;split at h
       ·split at h
        ·cases h;intro b hb;rcases hb with hb|hb
         ·exact M6 hx (A1f (j6.1 hb).1)
         ·exact M6 hx (A1f (R4.1 hb).1)
        ·cases h
       ·rename_i U sz' lo n A;split at h
        ·split at h
         ·cases h;intro b hb;rcases hb with hb|hb
          ·exact M6 hx (A1f (j6.1 hb).1)
          ·rcases D0H.1 hb with rfl|hb
           ·exact M6 hs (by rw[A];simp[rdB])
           ·exact M6 hx (A1f (R4.1 hb).1)
         ·cases h
        ·cases h
       ·cases h
      ·cases h
     ·cases h
    all_goals cases h
  case makeMap t r=>
   cases r with
   |none=>simp only[H8,D0R]at h;subst h;intro b hb;simp[A0i]at hb
   |some r=>simp[H8]at h
  all_goals cases h
abbrev Kf:=FEnv→Heap→(Nat→Prop)→Prop
def H6(gs:List (Option Nat))(j:Nat):Option Nat:=(gs[j]?).getD none
def A1h(E:Env)(s:Option Nat)(want:Bool)(run skip:Env→Prop):Prop:=match s with
 |none=>skip E
 |some s=>(E.get s= .tuple []∧skip E)∨∃b,E.get s= .bool b∧(b=want→run ((s,.bool want)::E))∧(b= !want→skip ((s,.bool (!want))::E))
def A1i(gs:List (Option Nat))(F:FEnv):Option (Nat×Bool)→Option Bool
 |none=>some true
 |some (j,want)=>match H6 gs j with
  |none=>some false
  |some s=>match F s with
   | .tuple []=>some false
   | .bool b=>some (b==want)
   |_=>none
def A0E(P:Program)(c:CR)(bl:Bl)(o:Oper)(K:Kf):Kf:=fun F H U=>∃e,j5 P c bl.l F.ev H o.op=some e∧A5e bl H e∧N9 P c bl.l F.ev H o.op∧
 ∀b,e.okB b U→K (F.put o.dst (e.val b)) (e.app b H) (e.used b U)
def A0F(P:Program)(gs:List (Option Nat))(c:CR)(bl:Bl)(o:Oper)(K:Kf):Kf:=fun F H U=>(A1i gs F o.guard=some true∧A0E P c bl o K F H U)∨(A1i gs F o.guard=some false∧K (F.put o.dst (.tuple [])) H U)
theorem A09{o:Oper}{K d:Kf}{F:FEnv}{H:Heap}{U:Nat→Prop}(h: ∀v H U,K (F.put o.dst v) H U→d (F.put o.dst v) H U)(hk:A0E P c bb o K F H U):A0E P c bb o d F H U:=
 let ⟨e,h2,h3,h4,h5⟩:=hk;⟨e,h2,h3,h4,fun b hb=>h _ _ _ (h5 b hb)⟩
theorem A1A{d:List (Option Nat)}{o:Oper}{K e:Kf}(h: ∀F H U,K F H U→e F H U){F:FEnv}{H:Heap}{U:Nat→Prop}(hk:A0F P d c bb o K F H U):A0F P d c bb o e F H U:=
 hk.imp (fun hk=>⟨hk.1,A09 (fun _ _ _=>h _ _ _) hk.2⟩) fun hk=>⟨hk.1,h _ _ _ hk.2⟩
theorem C1n{F:FEnv}{dst:Option Tmp}{d:D}{x:Operand}(h: ∀t,dst=some t→x≠ .tmp t):(F.put dst d).ev x=F.ev x:=by
 cases dst with
 |none=>rfl
 |some t=>
  cases x with
  |tmp u=>
   have:t≠u:=fun e=>h t rfl (by rw[e]);simp[FEnv.ev,FEnv.put,this]
  |_=>rfl
theorem P5{F:FEnv}{ops:Array Oper}{o:Oper}{dst:Option Tmp}{d:D}(h: ∀t,dst=some t→t∉o.looksAt ops): ∀x∈o.op.operands.toList,(F.put dst d).ev x=F.ev x:=fun x hx=>
 C1n fun t g e=>h t g (by subst e;exact List.mem_append_left _ (List.mem_filterMap.2 ⟨.tmp t,hx,rfl⟩))
theorem A1j{F:FEnv}{x y:Option Tmp}{d d':D}(h: ∀t,x=some t→y≠some t):(F.put x d).put y d'=(F.put y d').put x d:=by
 funext k
 cases x with
 |none=>rfl
 |some t=>
  cases y with
  |none=>rfl
  |some u=>
   have:t≠u:=fun e=>h t rfl (by rw[e]);simp only[FEnv.put];by_cases h1:t=k<;>by_cases g:u=k<;>simp[h1,g];exact absurd (h1.trans g.symm) this
structure Dom(H:Heap)(U:Nat→Prop):Prop where
 dom: ∀b,H b≠none→U b
 fin: ∀l:List Nat,∃b,¬U b∧b∉l
theorem Dom.app{H:Heap}{U:Nat→Prop}(h:Dom H U){e:Ef}{b:Nat}(hb:e.okB b U):Dom (e.app b H) (e.used b U):=by
 have hm: ∀k,(H.minus e.del) k≠none→U k:=fun k hk=>h.dom k fun i=>hk (by unfold Heap.minus;split;rfl;exact i);unfold Ef.app Ef.used;cases hn:e.new with
 |none=>exact⟨hm,h.fin⟩
 |some o=>
  refine⟨fun k hk=>?_,fun l=>?_⟩
  ·by_cases d:k=b
   ·exact .inr d
   ·simp only[Heap.set,if_neg d]at hk;exact .inl (hm k hk)
  ·obtain⟨x,h1,g⟩:=h.fin (b::l);simp only[D0H,not_or]at g;exact⟨x,fun hx=>hx.elim h1 g.1,g.2⟩
theorem A2C{e:Ef}{b k:Nat}{H:Heap}(d:k∉e.del)(hb:e.new≠none→k≠b):e.app b H k=H k:=by
 unfold Ef.app;cases hn:e.new with
 |none=>simp[Heap.minus,d]
 |some o=>simp[Heap.set,Heap.minus,d,hb (by rw[hn];simp)]
theorem B42{e:Ef}{b k:Nat}{H:Heap}{cs:List D}(h:A5e bb H e)(hk:e.app b H k=some (.ro cs)):H k=some (.ro cs):=by
 unfold Ef.app at hk;have hm:(H.minus e.del) k=some (.ro cs)→H k=some (.ro cs):=fun hk=>by
  unfold Heap.minus at hk;split at hk
  ·cases hk
  ·exact hk
 cases hn:e.new with
 |none=>rw[hn]at hk;exact hm hk
 |some o=>
  rw[hn]at hk;simp only[Heap.set]at hk;split at hk
  ·cases hk;have:=h.new _ hn;simp[Obj.rw]at this
  ·exact hm hk
theorem B2J{e:Ef}{b k:Nat}{H:Heap}{U:Nat→Prop}{cs:List D}(h:A5e bb H e)(j: ∀b,H b≠none→U b)(hb:e.okB b U)(hk:H k=some (.ro cs)):e.app b H k=some (.ro cs):=by
 have i:k∉e.del:=fun i=>by have:=(h.del k i).2;rw[hk]at this;simp[B09,Obj.rw]at this
 rw[A2C i fun hn he=>?_]
 ·exact hk
 ·subst he;unfold Ef.okB at hb;cases d:e.new with
  |none=>exact hn d
  |some o=>
   rw[d]at hb;cases g:e.at_ with
   |none=>
    rw[g]at hb;rcases hb with hb|hb
    ·exact hb (j k (by rw[hk];simp))
    ·exact i hb
   |some c=>
    rw[g]at hb;subst hb;exact i (h.at_ _ g)
theorem B43{i j:Ef}{bi e:Nat}{H:Heap}(h1: ∀b∈i.del,b∉j.del)(g:i.new≠none→j.new≠none→bi≠e)(h:i.new≠none→bi∉j.del)(d:j.new≠none→e∉i.del):j.app e (i.app bi H)=i.app bi (j.app e H):=by
 funext k
 unfold Ef.app;cases q:i.new with
 |none=>
  cases m:j.new with
  |none=>simp only[Heap.minus];by_cases x:k∈i.del<;>by_cases y:k∈j.del<;>simp[x,y]
  |some o=>
   rw[m]at d;have d:=d (by simp);simp only[Heap.minus,Heap.set];by_cases z:k=e
   ·subst z;simp[d]
   ·by_cases x:k∈i.del<;>by_cases y:k∈j.del<;>simp[x,y,z]
 |some r=>
  rw[q]at g h;have h:=h (by simp);cases m:j.new with
  |none=>
   simp only[Heap.minus,Heap.set];by_cases z:k=bi
   ·subst z;simp[h]
   ·by_cases x:k∈i.del<;>by_cases y:k∈j.del<;>simp[x,y,z]
  |some o=>
   rw[m]at g d;have d:=d (by simp);have g:=g (by simp) (by simp);simp only[Heap.minus,Heap.set];by_cases z:k=bi
   ·subst z;simp[h,g]
   ·by_cases p:k=e
    ·subst p;simp[d,z]
    ·by_cases x:k∈i.del<;>by_cases y:k∈j.del<;>simp[x,y,z,p]
theorem A9U{e:Ef}{b k:Nat}{U:Nat→Prop}(h:U k):e.used b U k:=by
 unfold Ef.used;cases e.new with
 |none=>exact h
 |some o=>exact .inl h
theorem B44{e:Ef}{b:Nat}{U:Nat→Prop}(h:e.new≠none):e.used b U b:=by
 unfold Ef.used;cases hn:e.new with
 |none=>exact absurd hn h
 |some o=>exact .inr rfl
theorem used_inv{e:Ef}{b k:Nat}{U:Nat→Prop}(h:e.used b U k):U k∨(e.new≠none∧k=b):=by
 unfold Ef.used at h;cases hn:e.new with
 |none=>rw[hn]at h;exact .inl h
 |some o=>rw[hn]at h;exact h.imp id fun h=>⟨by simp,h⟩
theorem B3b{i j:Ef}{bi d:Nat}{U:Nat→Prop}:j.used d (i.used bi U)=i.used bi (j.used d U):=by
 unfold Ef.used;cases i.new<;>cases j.new<;>try rfl
 funext k
 apply propext;simp only[or_assoc,or_comm (a:=k=bi)]
def A0j(P:Program)(oi oj:Op):Bool:=(!A02 oi||I5 P oj== .pure)&&(!A02 oj||I5 P oi== .pure)
theorem A9V{o:Op}{e:Ef}{ev:Operand→D}{H:Heap}(h:j5 P c bl ev H o=some e)(hs:A02 o=false):e.at_=none:=by
 by_cases hc:I5 P o= .pure
 ·rw[S7 hc]at h;obtain⟨d,_,rfl⟩:=C9y.1 h;rfl
 ·rw[I0 hc]at h;cases o
  case load t x=>simp only[H8,C9y]at h;obtain⟨d,_,rfl⟩:=h;rfl
  case lookup t m k ok=>simp only[H8,C9y]at h;obtain⟨d,_,rfl⟩:=h;rfl
  case alloc t=>simp only[H8,C9y]at h;obtain⟨d,_,rfl⟩:=h;rfl
  case box t x=>simp only[H8]at h;split at h<;>cases h;rfl
  case makeSlice t l c=>
   simp only[H8]at h;obtain⟨_,_,_,_,_,_,_,_,_,_,_,_,_,_,_,_,_,_,rfl⟩:=A45 h;rfl
  case buildSlice t n parts=>
   simp only[H8,bsE]at h;obtain⟨T,g,h⟩:=C91.1 h;split at h
   ·obtain⟨z,q,h⟩:=C91.1 h;split at h
    ·obtain⟨es,i,rfl⟩:=C9y.1 h;rfl
    ·cases h
   ·cases h
  case store t a x=>simp[A02]at hs
  case call cc=>
   obtain⟨callee,args,j⟩:=cc;cases callee with
   |value f=>
    simp only[H8]at h;split at h<;>cases h;rfl
   |invoke r m=>simp[H8]at h
   |builtin b=>
    cases b
    case append=>
     unfold H8 at h;simp only at h;split at h
     ·unfold B1A at h;obtain⟨T,g,h⟩:=C91.1 h;split at h
      ·obtain⟨xs,p,h⟩:=C91.1 h;split at h
       ·split at h<;>cases h;rfl
       ·split at h
        ·split at h<;>cases h;rfl
        ·cases h
       ·cases h
      ·cases h
     ·cases h
    all_goals cases h
  case makeMap t r=>
   cases r with
   |none=>simp only[H8,D0R]at h;subst h;rfl
   |some r=>simp[H8]at h
  all_goals cases h
theorem A2D{o:Op}{e:Ef}{ev:Operand→D}{H:Heap}(h:j5 P c bl ev H o=some e)(hc:I5 P o= .pure):e.rd= []∧e.del= []∧e.new=none:=by
 rw[S7 hc]at h;obtain⟨d,_,rfl⟩:=C9y.1 h;exact⟨rfl,rfl,rfl⟩
theorem B1B{ops:Array Oper}{X oj:Oper}{ci cj:CR}{K:Kf}{F:FEnv}{H:Heap}{U:Nat→Prop}(c6:X.apart ops oj=true)(G:A0j P X.op oj.op=true)(hB:A3y Bi Bj)(hD:Dom H U)
  (h:A0E P ci Bi X (A0E P cj Bj oj K) F H U):A0E P cj Bj oj (A0E P ci Bi X K) F H U:=by
 obtain⟨c7,a9⟩:=hB;obtain⟨a1,a2,a3⟩:=Oper.apart_spec c6;obtain⟨j,ri,m,Y,hi⟩:=h;simp only[A0j,C92,D1C,Bool.not_eq_true',beq_iff_eq]at G
 --a name for the first one's block that the second one does not name
 obtain⟨I,b1,b2⟩: ∃I,j.okB I U∧(j.new≠none→j.at_=none→I∉B2I F.ev oj.op∧¬U I):=by
  obtain⟨x,b3,c8⟩:=hD.fin (B2I F.ev oj.op);cases hn:j.new with
  |none=>exact⟨x,by unfold Ef.okB;rw[hn];trivial,fun h=>absurd rfl h⟩
  |some o=>
   cases q:j.at_ with
   |none=>exact⟨x,by unfold Ef.okB;rw[hn,q];exact .inl b3,fun _ _=>⟨c8,b3⟩⟩
   |some y=>exact⟨y,by unfold Ef.okB;rw[hn,q],fun _ h=>by cases h⟩
 have O: ∀y,j.at_=some y→I5 P oj.op= .pure:=fun y hy=>by
  rcases G.1 with h|h
  ·rw[A9V ri h]at hy;cases hy
  ·exact h
 obtain⟨p,rj,u,a0,_⟩:=hi I b1;have C:j5 P cj Bj.l F.ev (j.app I H) oj.op=some p:=by rw[←rj];exact(s9 (P5 a1)).symm
 have c9:N9 P cj Bj.l F.ev (j.app I H) oj.op:=by rw[←j7 (P5 (F:=F) (d:=j.val I) a1)];exact a0
 have b4: ∀y,p.at_=some y→I5 P X.op= .pure:=fun y hy=>by
  rcases G.2 with h|h
  ·rw[A9V C h]at hy;cases hy
  ·exact h
 --what the second one names,the first one lets be
 have b6: ∀b,b∈p.rd∨b∈p.del→j.new≠none→b≠I:=fun b hb hn he=>by
  subst he;cases q:j.at_ with
  |none=>exact(b2 hn q).1 (B3a C b hb)
  |some y=>
   obtain⟨e1,e2,_⟩:=A2D C (O y q);rw[e1,e2]at hb;simp at hb
 have J: ∀b∈p.del,b∉j.del:=fun b hb e=>by
  have h1:=(u.del b hb).2;have h2:j.app I H b=none:=by
   unfold Ef.app;cases hn:j.new with
   |none=>simp[Heap.minus,e]
   |some o=>simp[Heap.set,Heap.minus,e,b6 b (.inr hb) (by rw[hn];simp)]
  rw[h2]at h1;cases h1
 have a4: ∀b∈p.rd,b∉j.del:=fun b hb e=>by
  cases q:j.at_ with
  |none=>
   have V:=c7 b (u.rd b hb).1.1 (u.rd b hb).2;rcases(m.del b e).1 q with g|g
   ·exact g V.1
   ·exact V.2 g
  |some y=>rw[(A2D C (O y q)).1]at hb;cases hb
 have z: ∀b,b∈p.rd∨b∈p.del→j.app I H b=H b:=fun b hb=>A2C (hb.elim (a4 b) (J b)) (b6 b hb);have b7:j5 P cj Bj.l F.ev H oj.op=some p:=A2h C fun b hb=>(z b hb).symm;have r:A5e Bj H p:=⟨fun b hb=>⟨⟨(u.rd b hb).1.1,by rw[←z b (.inl hb)];exact(u.rd b hb).1.2⟩,(u.rd b hb).2⟩,fun b hb=>⟨(u.del b hb).1,by rw[←z b (.inr hb)];exact(u.del b hb).2⟩,u.new,u.at_⟩
 have d0:N9 P cj Bj.l F.ev H oj.op:=A3D c9 C (fun k cs hk=>B2J m hD.dom b1 hk) (fun k cs hk=>B42 m hk) (fun b hb=>(z b hb).symm);refine⟨p,b7,r,d0,fun L i=>?_⟩
 --the first one behind the second one
 have b8: ∀b,B09 (H b)=true→U b:=fun b hb=>hD.dom b fun h=>by rw[h]at hb;cases hb
 have a5: ∀b,b∈j.rd∨b∈j.del→p.new≠none→b≠L:=fun b hb hn he=>by
  subst he;unfold Ef.okB at i;cases W:p.new with
  |none=>exact hn W
  |some o=>
   rw[W]at i;cases q:p.at_ with
   |none=>
    rw[q]at i;rcases i with i|i
    ·rcases hb with hb|hb
     ·exact i (hD.dom b (m.rd b hb).1.2)
     ·exact i (b8 b (m.del b hb).2)
    ·rcases hb with hb|hb
     ·have V:=a9 b (m.rd b hb).1.1 (m.rd b hb).2;rcases(r.del b i).1 q with g|g
      ·exact g V.1
      ·exact V.2 g
     ·exact J b i hb
   |some y=>
    obtain⟨e1,e2,_⟩:=A2D ri (b4 y q);rw[e1,e2]at hb;simp at hb
 have b9: ∀b,b∈j.rd∨b∈j.del→b∉p.del:=fun b hb i=>by
  rcases hb with hb|hb
  ·cases q:p.at_ with
   |none=>
    have V:=a9 b (m.rd b hb).1.1 (m.rd b hb).2;rcases(r.del b i).1 q with g|g
    ·exact g V.1
    ·exact V.2 g
   |some y=>rw[(A2D ri (b4 y q)).1]at hb;cases hb
  ·exact J b i hb
 have A: ∀b,b∈j.rd∨b∈j.del→p.app L H b=H b:=fun b hb=>A2C (b9 b hb) (a5 b hb);have d2:j5 P ci Bi.l (F.put oj.dst (p.val L)).ev (p.app L H) X.op=some j:=by
  rw[s9 (P5 a3)];exact A2h ri A
 have c0:A5e Bi (p.app L H) j:=⟨fun b hb=>⟨⟨(m.rd b hb).1.1,by rw[A b (.inl hb)];exact(m.rd b hb).1.2⟩,(m.rd b hb).2⟩,fun b hb=>⟨(m.del b hb).1,by rw[A b (.inr hb)];exact(m.del b hb).2⟩,m.new,m.at_⟩
 have d3:N9 P ci Bi.l (F.put oj.dst (p.val L)).ev (p.app L H) X.op:=by
  rw[j7 (P5 a3)];exact A3D Y ri (fun k cs hk=>B42 r hk) (fun k cs hk=>B2J r hD.dom i hk) A
 refine⟨j,d2,c0,d3,fun bi e=>?_⟩
 --the names are apart
 have c1:j.okB bi U:=by
  unfold Ef.okB at e⊢;cases hn:j.new with
  |none=>trivial
  |some o=>
   rw[hn]at e;cases q:j.at_ with
   |none=>
    rw[q]at e;exact e.imp (fun h hU=>h (A9U hU)) id
   |some y=>rw[q]at e;exact e
 have c2:j.new≠none→p.new≠none→bi≠L:=fun hn hm he=>by
  subst he;unfold Ef.okB at e;cases M:j.new with
  |none=>exact hn M
  |some o=>
   rw[M]at e;cases q:j.at_ with
   |none=>
    rw[q]at e;rcases e with e|e
    ·exact e (B44 hm)
    ·exact a5 bi (.inr e) hm rfl
   |some y=>exact hm (A2D C (O y q)).2.2
 have c3: ∀b,b∈p.rd∨b∈p.del→j.new≠none→b≠bi:=fun b hb hn he=>by
  subst he;unfold Ef.okB at e;cases M:j.new with
  |none=>exact hn M
  |some o=>
   rw[M]at e;cases q:j.at_ with
   |none=>
    rw[q]at e;rcases e with e|e
    ·apply e;have:U b:=by
      rcases hb with hb|hb
      ·exact hD.dom b (r.rd b hb).1.2
      ·exact b8 b (r.del b hb).2
     exact A9U this
    ·exact b9 b (.inr e) (by rcases hb with hb|hb;exact absurd e (a4 b hb);exact hb)
   |some y=>
    obtain⟨e1,e2,_⟩:=A2D C (O y q);rw[e1,e2]at hb;simp at hb
 obtain⟨T,c4,d7,d8,hj⟩:=hi bi c1;have a6: ∀b,b∈p.rd∨b∈p.del→j.app bi H b=H b:=fun b hb=>A2C (hb.elim (a4 b) (J b)) (c3 b hb);have d4:T=p:=by
  rw[s9 (P5 a1)]at c4;have:=A2h b7 a6;rw[c4]at this;exact Option.some.inj this
 subst d4;have c5:T.okB L (j.used bi U):=by
  unfold Ef.okB at i⊢;cases hn:T.new with
  |none=>trivial
  |some o=>
   rw[hn]at i;cases q:T.at_ with
   |none=>
    rw[q]at i;refine i.imp (fun h hU=>?_) id;rcases used_inv hU with hU|⟨d5,hU⟩
    ·exact h hU
    ·exact c2 d5 (by rw[hn];simp) hU.symm
   |some y=>rw[q]at i;exact i
 have:=hj L c5;rw[A1j a2,B43 (fun b hb d6=>J b d6 hb) c2 (fun hn hb=>c3 bi (.inr hb) hn rfl) (fun hn hb=>a5 L (.inr hb) hn rfl),B3b]at this;exact this
abbrev O0(ops:Array Oper):List (Option Nat):=ops.toList.map (·.dst)
theorem B2K(ops:Array Oper)(j:Nat):H6 (O0 ops) j=(ops[j]?).bind (·.dst):=by
 unfold H6;rw[D0C];cases d:ops[j]? with
 |none=>simp[d]
 |some o=>simp[d]
theorem A9W{ops:Array Oper}{F:FEnv}{o:Oper}{dst:Option Tmp}{d:D}(h: ∀t,dst=some t→t∉o.looksAt ops):A1i (O0 ops) (F.put dst d) o.guard=A1i (O0 ops) F o.guard:=by
 cases m:o.guard with
 |none=>rfl
 |some p=>
  obtain⟨j,i⟩:=p;unfold A1i;simp only[];rw[B2K];cases hs:(ops[j]?).bind (·.dst)with
  |none=>rfl
  |some s=>
   simp only[];cases dst with
   |none=>rfl
   |some t=>
    have g:t≠s:=fun e=>h t rfl (by subst e;simp[Oper.looksAt,m,hs]);simp only[FEnv.put,if_neg g]
theorem B3c{ops:Array Oper}{i oj:Oper}{u A:CR}{K:Kf}{F:FEnv}{H:Heap}{U:Nat→Prop}(m:i.apart ops oj=true)(j:A0j P i.op oj.op=true)(L:A3y Bi Bj)(J:Dom H U)
  (h:A0F P (O0 ops) u Bi i (A0F P (O0 ops) A Bj oj K) F H U):A0F P (O0 ops) A Bj oj (A0F P (O0 ops) u Bi i K) F H U:=by
 obtain⟨a1,a2,a3⟩:=Oper.apart_spec m;have p: ∀v,A1i (O0 ops) (F.put i.dst v) oj.guard=A1i (O0 ops) F oj.guard:=fun v=>A9W a1;have z: ∀v,A1i (O0 ops) (F.put oj.dst v) i.guard=A1i (O0 ops) F i.guard:=fun v=>A9W a3;rcases h with⟨hr,h⟩|⟨hr,h⟩
 ·
  cases q:A1i (O0 ops) F oj.guard with
  |none=>
   exfalso;obtain⟨e,_,_,_,h5⟩:=h;obtain⟨x,hx,_⟩:=J.fin [];obtain⟨b,hb⟩: ∃b,e.okB b U:=by
    unfold Ef.okB;cases e.new with
    |none=>exact⟨x,trivial⟩
    |some o=>
     cases e.at_ with
     |none=>exact⟨x,.inl hx⟩
     |some y=>exact⟨y,rfl⟩
   rcases h5 b hb with⟨g,_⟩|⟨g,_⟩<;>rw[p,q]at g<;>cases g
  |some r=>
   cases r with
   |true=>
    have C:A0E P u Bi i (A0E P A Bj oj K) F H U:=A09 (fun v H U hk=>by
     rcases hk with⟨_,hk⟩|⟨g,_⟩
     ·exact hk
     ·rw[p,q]at g;cases g) h
    exact .inl ⟨q,A09 (fun v H U hk=>.inl ⟨by rw[z];exact hr,hk⟩) (B1B m j L J C)⟩
   |false=>
    have C:A0E P u Bi i (fun F H U=>K (F.put oj.dst (.tuple [])) H U) F H U:=A09 (fun v H U hk=>by
     rcases hk with⟨g,_⟩|⟨_,hk⟩
     ·rw[p,q]at g;cases g
     ·exact hk) h
    refine .inr ⟨q,.inl ⟨by rw[z];exact hr,?_⟩⟩;obtain⟨e,G,I,h5,g⟩:=C;exact⟨e,by rw[s9 (P5 a3)];exact G,I,by rw[j7 (P5 a3)];exact h5,fun b hb=>by rw[←A1j a2];exact g b hb⟩
 ·
  rcases h with⟨g,h⟩|⟨g,h⟩
  ·rw[p]at g;refine .inl ⟨g,?_⟩;obtain⟨e,G,I,h5,M⟩:=h;refine⟨e,by rw[←G];exact(s9 (P5 a1)).symm,I,by rw[←j7 (P5 (F:=F) (d:=.tuple []) a1)];exact h5,fun b hb=>.inr ⟨by rw[z];exact hr,?_⟩⟩;rw[←A1j a2];exact M b hb
  ·rw[p]at g;exact .inr ⟨g,.inr ⟨by rw[z];exact hr,by rw[←A1j a2];exact h⟩⟩
variable {ops:Array Oper} {md:Region.Mode} {cs:Nat→CR} {bs:Nat→Bl}
def sE(P:Program)(cs:Nat→CR)(bs:Nat→Bl)(ops:Array Oper)(i:Nat)(K:Kf):Kf:=match ops[i]? with
 |none=>K
 |some o=>A0F P (O0 ops) (cs i) (bs i) o K
def B3d(P:Program)(cs:Nat→CR)(bs:Nat→Bl)(md:Region.Mode)(ops:Array Oper)(K:Kf):Nat→Array Bool→Kf
 |0,listed=>fun F H U=>Region.ready md ops listed= []∧K F H U
 |fuel+1,listed=>fun F H U=>(Region.ready md ops listed= []→K F H U)∧∀i∈Region.ready md ops listed,sE P cs bs ops i (B3d P cs bs md ops K fuel (listed.setIfInBounds i true)) F H U
theorem B1C{e:Ef}{H:Heap}{U:Nat→Prop}(d:Dom H U): ∃b,e.okB b U:=by
 obtain⟨x,hx,_⟩:=d.fin [];unfold Ef.okB;cases e.new with
 |none=>exact⟨x,trivial⟩
 |some o=>
  cases e.at_ with
  |none=>exact⟨x,.inl hx⟩
  |some y=>exact⟨y,rfl⟩
theorem B3e{o:Oper}{K:Kf}{F:FEnv}{H:Heap}{U:Nat→Prop}(d:Dom H U)(h:A0E P c bb o K F H U):A0E P c bb o (fun F H U=>Dom H U∧K F H U) F H U:=
 let ⟨e,h2,h3,h4,h5⟩:=h;⟨e,h2,h3,h4,fun b hb=>⟨d.app hb,h5 b hb⟩⟩
theorem A9X{d:List (Option Nat)}{o:Oper}{F:FEnv}{H:Heap}{U:Nat→Prop}(g:Dom H U)(h:A0F P d c bb o (fun _ _ _=>False) F H U):False:=by
 rcases h with⟨_,e,_,_,_,h5⟩|⟨_,h⟩
 ·obtain⟨b,hb⟩:=B1C (e:=e) g;exact h5 b hb
 ·exact h
theorem A6y{d:List (Option Nat)}{o:Oper}{K:Kf}{F:FEnv}{H:Heap}{U:Nat→Prop}(e:Dom H U)(h:A0F P d c bb o K F H U):A0F P d c bb o (fun F H U=>Dom H U∧K F H U) F H U:=
 h.imp (fun h=>⟨h.1,B3e e h.2⟩) fun h=>⟨h.1,e,h.2⟩
theorem B1D{K:Kf}{i:Nat}{q:Oper}{W:Nat→Prop}(O:ops[i]? =some q)(V:Closed md ops i W):
  ∀(fuel:Nat) (d:Array Bool) (F:FEnv) (H:Heap) (U:Nat→Prop),Dom H U→(∀j,W j→d.getD j false=false)→
   (∀j oj,ops[j]? =some oj→¬W j→d.getD j true=false→(q.apart ops oj=true∧A0j P q.op oj.op=true)∧A3y (bs i) (bs j))→
   i∈Region.ready md ops d→A0F P (O0 ops) (cs i) (bs i) q (B3d P cs bs md ops K fuel (d.setIfInBounds i true)) F H U→B3d P cs bs md ops K (fuel+1) d F H U:=by
 intro fuel
 induction fuel with
 |zero=>
  intro d F H U G _ _ hr h;refine⟨fun I=>(by rw[I]at hr;cases hr),fun j x=>?_⟩;by_cases g:j=i
  ·subst g;unfold sE;simp only[O];exact h
  ·exfalso;refine A9X G (A1A (fun F H U hk=>?_) h);have:=ready_mono x g;rw[hk.1]at this;cases this
 |succ fuel X=>
  intro d F H U G y m hr h;refine⟨fun I=>(by rw[I]at hr;cases hr),fun j x=>?_⟩;by_cases g:j=i
  ·subst g;unfold sE;simp only[O];exact h
  ·obtain⟨p,oj,r,_⟩:=mem_ready.1 x;have z:=V.not_ready y x g;obtain⟨⟨J,u⟩,L⟩:=m j oj r z p;have A: ∀k,W k→(d.setIfInBounds j true).getD k false=false:=fun k hk=>by
    rw[U5 (fun e:j=k=>z (by rw[e];exact hk))];exact y k hk
   have o: ∀k ok,ops[k]? =some ok→¬W k→(d.setIfInBounds j true).getD k true=false→(q.apart ops ok=true∧A0j P q.op ok.op=true)∧A3y (bs i) (bs k):=fun k ok hk M T=>by
    refine m k ok hk M ?_;by_cases C:j=k
    ·subst C;exact p
    ·rw[getD_set_ne true C]at T;exact T
   have h1:A0F P (O0 ops) (cs i) (bs i) q (A0F P (O0 ops) (cs j) (bs j) oj (B3d P cs bs md ops K fuel ((d.setIfInBounds i true).setIfInBounds j true))) F H U:=A1A (fun F H U hk=>by
    have:=hk.2 j (ready_mono x g);unfold sE at this;simp only[r]at this;exact this) h
   have Y:=A6y G (B3c J u L G h1);unfold sE;simp only[r];refine A1A (fun F H U hk=>X (d.setIfInBounds j true) F H U hk.1 A o (ready_mono hr (Ne.symm g)) ?_) Y;rw[Array.setIfInBounds_comm _ _ g];exact hk.2
def A6z(P:Program)(gs:List (Option Nat))(cs:Nat→CR)(bs:Nat→Bl)(K:Kf):Nat→List Oper→Kf
 |_,[]=>K
 |k,o::l=>A0F P gs (cs k) (bs k) o (A6z P gs cs bs K (k+1) l)
def A46(P:Program)(ops:Array Oper)(oi oj:Oper):Bool:=oi.apart ops oj&&A0j P oi.op oj.op
def A2E(P:Program)(ops:Array Oper)(oi:Oper):List Oper→List Bool→Bool
 | [],_=>true
 |o::l,b::W=>(b||A46 P ops oi o)&&A2E P ops oi l W
 |_::_,[]=>false
def A47(P:Program)(ops:Array Oper):Nat→List Oper→Bool
 |_,[]=>true
 |k,o::l=>(o.after.all fun e=> !Region.binds .any e||e.on<k)&&A2E P ops o l (W7 k l [])&&A47 P ops (k+1) l
def B2L(P:Program)(ops:Array Oper):Bool:=A47 P ops 0 ops.toList
def B3f:(Nat→Bl)→Nat→List Oper→Prop
 |_,_,[]=>True
 |bs,k,o::l=>(∀i,i<l.length→(W7 k l [])[i]? ≠some true→A3y (bs k) (bs (k+1+i)))∧B3f bs (k+1) l
theorem A2i(bl:List Nat): ∀(l:List Oper) (k:Nat),B3f (fun _=>⟨bl,[],[]⟩) k l
 | [],_=>trivial
 |_::l,k=>⟨fun i _ _=>⟨fun b h _=>⟨h,(by simp)⟩,fun b h _=>⟨h,(by simp)⟩⟩,A2i bl l (k+1)⟩
theorem okRestE_at{e:Oper}: ∀(l:List Oper) (W:List Bool),A2E P ops e l W=true→∀(i:Nat) (o:Oper),l[i]? =some o→W[i]? =some true∨A46 P ops e o=true
 | [],_,_,i,o,h=>by simp at h
 |o'::l,[],h,_,_,_=>by simp[A2E]at h
 |o'::l,b::W,h,0,o,d=>by
  simp[A2E]at h d;subst d;rcases h.1 with h|h
  ·exact .inl (by simp[h])
  ·exact .inr h
 |o'::l,b::W,h,i+1,o,d=>by
  simp[A2E]at h d;simpa using okRestE_at l W h.2 i o d
theorem A9Y{K:Kf}: ∀(l:List Oper) (k:Nat) (d:Array Bool),(∀j,l[j]? =ops[k+j]?)→(∀j,d.getD j false=decide (j<k))→(d.size=ops.size)→
  A47 P ops k l=true→B3f bs k l→∀F H U,Dom H U→A6z P (O0 ops) cs bs K k l F H U→B3d P cs bs .any ops K l.length d F H U:=by
 intro l
 induction l with
 |nil=>
  intro k d hl u hsz _ _ F H U _ h;refine⟨?_,h⟩;cases hr:Region.ready .any ops d with
  |nil=>rfl
  |cons x xs=>
   exfalso;have hx:x∈Region.ready .any ops d:=by rw[hr];simp
   obtain⟨O,o,ho,_⟩:=mem_ready.1 hx;have:=u x;rw[J5 O]at this;have hk:k≤x:=by simpa using this
   have:=hl (x-k);rw[show k+(x-k)=x from by omega,ho]at this;simp at this
 |cons o l ih=>
  intro k d hl u hsz T V F H U hD h;obtain⟨a5,a6⟩:=V;have O:ops[k]? =some o:=by simpa using(hl 0).symm
  have b3:k<ops.size:=(D0E.1 O).1;simp only[A47,C92]at T;obtain⟨⟨he,hr⟩,y⟩:=T;have z: ∀j,l[j]? =ops[k+1+j]? :=fun j=>by have:=hl (j+1);simpa [Nat.add_assoc,Nat.add_comm 1 j]using this
  have p:k∈Region.ready .any ops d:=by
   rw[mem_ready];refine⟨?_,o,O,fun e A hb=>?_⟩
   ·have:=u k;simp at this;have C:k<d.size:=by omega
    simp[C]at this⊢;exact this
   ·rw[u];rw[Array.all_eq_true_iff_forall_mem]at he;have:=he e A;simp[hb]at this;simpa using this
  have a9: ∀j,(d.setIfInBounds k true).getD j false=decide (j<k+1):=fun j=>by
   by_cases G:k=j
   ·subst G;have C:k<d.size:=by omega
    simp[C]
   ·rw[getD_set_ne false G,u];apply D0S.2;omega
  have X:(d.setIfInBounds k true).size=ops.size:=by simpa using hsz
  let W:Nat→Prop:=fun j=>j=k∨(k<j∧(W7 k l [])[j-(k+1)]? =some true)
  have b0:Closed .any ops k W:=by
   refine⟨.inl rfl,fun j oj I Y m=>?_⟩;rcases I with I|⟨b1,I⟩
   ·exact absurd I Y
   ·have q:l[j-(k+1)]? =some oj:=by rw[z];rw[show k+1+(j-(k+1))=j from by omega];exact m
    have J:=A3B k l [] (j-(k+1)) oj q;simp only[C9w,Nat.zero_add]at J;rw[I]at J;have hw:j0 oj k ((W7 k l []).take (j-(k+1)))=true:=by simpa using J.symm
    unfold j0 at hw;obtain⟨e,A,g⟩:=Array.any_eq_true'.1 hw;simp only[C92,D1C,beq_iff_eq,D0B]at g;refine⟨e,A,g.1,?_⟩;rcases g.2 with h1|⟨h1,i⟩
    ·exact .inl h1
    ·refine .inr ⟨h1,?_⟩;rw[List.getD_eq_getElem?_getD]at i;cases M:((W7 k l []).take (j-(k+1)))[e.on-(k+1)]? with
     |none=>rw[M]at i;simp at i
     |some b=>
      rw[M]at i;simp at i;subst i;rw[List.getElem?_take]at M;split at M
      ·exact M
      ·cases M
  have b2: ∀j,W j→d.getD j false=false:=fun j I=>by
   rw[u];rcases I with rfl|⟨b1,_⟩<;>simp;omega
  have L: ∀j oj,ops[j]? =some oj→¬W j→d.getD j true=false→A46 P ops o oj=true∧A3y (bs k) (bs j):=fun j oj m r hu=>by
   have h1:=u j;rw[J5 hu]at h1;have G:k≤j:=by simpa using h1
   have Y:j≠k:=fun e=>r (.inl e);have q:l[j-(k+1)]? =some oj:=by rw[z];rw[show k+1+(j-(k+1))=j from by omega];exact m
   have a0:(W7 k l [])[j-(k+1)]? ≠some true:=fun i=>r (.inr ⟨by omega,i⟩);have a4:=a5 (j-(k+1)) (C9z.1 q).1 a0;rw[show k+1+(j-(k+1))=j from by omega]at a4;rcases okRestE_at l _ hr _ _ q with i|i
   ·exact absurd i a0
   ·exact⟨i,a4⟩
  refine B1D O b0 l.length d F H U hD b2 (fun j oj m r hu=>?_) p (A1A (fun F' H' U' h'=>ih (k+1) _ z a9 X y a6 F' H' U' h'.1 h'.2) (A6y hD h));obtain⟨h1,i⟩:=L j oj m r hu;exact⟨by simpa [A46]using h1,i⟩
def Ef.okH(e:Ef)(b:Nat)(H:Heap):Prop:=match e.new,e.at_ with
 |none,_=>True
 |some _,some c=>b=c
 |some _,none=>H b=none∨b∈e.del
theorem C1o{e:Ef}{b:Nat}{H:Heap}{U:Nat→Prop}(g:Dom H U)(h:e.okB b U):e.okH b H:=by
 unfold Ef.okB at h;unfold Ef.okH;cases hn:e.new with
 |none=>trivial
 |some o=>
  rw[hn]at h;cases d:e.at_ with
  |none=>
   rw[d]at h;refine h.imp (fun h=>?_) id;cases hb:H b with
   |none=>rfl
   |some x=>exact absurd (g.dom b (by rw[hb];simp)) h
  |some y=>rw[d]at h;exact h
theorem F4(H:Heap):H.minus []=H:=by funext k;simp[Heap.minus]
theorem B3g{b k:Nat}:(H.del b) k=none↔k=b∨H k=none:=by unfold Heap.del;by_cases h:k=b<;>simp[h]
theorem A0k{t:TypeId}{a x:D}{H':Heap}{b:Nat}(h:X3 P t a x H=some H')(g:rdB a= [b]): ∃o,H' b=some o∧o.rw=true∧H'=H.set b o∧B09 (H b)=true:=by
 unfold X3 at h;split at h
 ·split at h
  ·rename_i e off;obtain rfl:e=b:=by simpa [rdB]using g
   split at h
   ·rename_i cs Z d;split at h
    ·cases h;exact⟨_,by simp[Heap.set],rfl,rfl,by rw[d];rfl⟩
    ·cases h
   ·cases h
  ·rename_i e sz i off;obtain rfl:e=b:=by simpa [rdB]using g
   split at h
   ·rename_i sz' es d;split at h
    ·cases h;exact⟨_,by simp[Heap.set],rfl,rfl,by rw[d];rfl⟩
    ·cases h
   ·cases h
  ·cases h
 ·cases h
theorem Y1(H:Heap)(b:Nat)(o:Obj):(H.minus [b]).set b o=H.set b o:=by
 funext k;unfold Heap.set Heap.minus
 by_cases h:k=b<;>simp[h]
theorem B8K{op:Op}{e:Ef}(h:j5 P c bl ev H op=some e)(a5:A5e bb H e)(j:N9 P c bl ev H op):
  C8 P ev H (fun d H'=>∃b,e.okH b H∧d=e.val b∧(e.app b H).Le H') op:=by
 have one: ∀{K:D→Heap→Prop} {d:D} {rd:List Nat},e=val d rd→(∃b,e.okH b H∧d=e.val b∧(e.app b H).Le H):=by
  intro K d rd he;subst he;exact⟨0,trivial,rfl,by show (H.minus []).Le H;rw[F4];exact D1G H⟩
 by_cases hc:I5 P op= .pure
 ·rw[S7 hc]at h;obtain⟨d,y,rfl⟩:=C9y.1 h;have fin: ∃d',K2 P ev op=some d'∧∃b,(val d []).okH b H∧d'=(val d []).val b∧((val d []).app b H).Le H:=⟨d,y,0,trivial,rfl,by show (H.minus []).Le H;rw[F4];exact D1G H⟩
  cases op
  case call cc=>
   obtain⟨callee,args,M⟩:=cc;cases callee with
   |value f=>simp[I5]at hc
   |invoke r m=>simp[I5]at hc
   |builtin b=>
    cases b<;>try(simp[I5]at hc;done)
    all_goals (simp only[C8,hc];exact fin)
  case convert s t x=>simp only[C8,hc];exact fin
  case load t x=>simp[I5]at hc
  case store t a x=>simp[I5]at hc
  case alloc t=>simp[I5]at hc
  case box t x=>simp[I5]at hc
  case buildSlice t n p=>simp[I5]at hc
  case makeSlice t a b=>simp[I5]at hc
  case range t x=>simp[I5]at hc
  case next x i=>simp[I5]at hc
  case makeMap t r=>simp[I5]at hc
  case lookup t m k ok=>simp[I5]at hc
  case mapUpdate t m k v=>simp[I5]at hc
  all_goals first
   |(simp only[C8,hc];exact fin)
   |(simp[I5]at hc;done)
 ·rw[I0 hc]at h;cases op
  case load t x=>
   simp only[H8,C9y]at h;obtain⟨d,y,rfl⟩:=h;exact⟨d,y,0,trivial,rfl,by show (H.minus []).Le H;rw[F4];exact D1G H⟩
  case lookup t m k ok=>
   simp only[H8,C9y]at h;obtain⟨d,y,rfl⟩:=h;exact⟨d,y,0,trivial,rfl,by show (H.minus []).Le H;rw[F4];exact D1G H⟩
  case alloc t=>
   simp only[H8,C9y]at h;obtain⟨z,O,rfl⟩:=h;exact⟨z,O,fun b hb=>⟨b,.inl hb,rfl,by show ((H.minus []).set b _).Le _;rw[F4];exact D1G _⟩⟩
  case box t x=>
   simp only[H8]at h;split at h
   ·rename_i h1;cases h;exact⟨h1,fun b hb=>⟨b,.inl hb,rfl,by show ((H.minus []).set b _).Le _;rw[F4];exact D1G _⟩⟩
   ·cases h
  case makeSlice t l c=>
   simp only[H8]at h;obtain⟨e',sz,A,z,k,n,k',m,h1,G,T,h4,h5,h6,h7,h8,h9,U,rfl⟩:=A45 h;exact⟨e',sz,A,z,k,n,k',m,h1,G,T,h4,h5,h6,h7,h8,h9,U,fun b hb=>⟨b,.inl hb,rfl,by show ((H.minus []).set b _).Le _;rw[F4];exact D1G _⟩⟩
  case buildSlice t n parts=>
   simp only[H8,bsE]at h;obtain⟨⟨e',sz,A⟩,V,h⟩:=C91.1 h;split at h
   ·rename_i h1;obtain⟨z,O,h⟩:=C91.1 h;split at h
    ·rename_i G;obtain⟨es,W,rfl⟩:=C9y.1 h;exact⟨e',sz,A,z,es,V,h1.1,h1.2,O,G,W,fun b hb=>⟨b,.inl hb,rfl,by show ((H.minus []).set b _).Le _;rw[F4];exact D1G _⟩⟩
    ·cases h
   ·cases h
  case store t a x=>
   simp only[H8,j4]at h;obtain⟨H1,hs,h⟩:=C91.1 h;refine⟨H1,hs,?_⟩;cases X:ev a with
   |box b off=>
    rw[X]at h hs;simp only at h;obtain⟨o,ho,rfl⟩:=C9y.1 h;obtain⟨o',C,_,I,_⟩:=A0k hs (b:=b) rfl;rw[ho]at C;cases C;exact⟨b,rfl,rfl,by show ((H.minus [b]).set b _).Le _;rw[Y1,I];exact D1G _⟩
   |el b sz i off=>
    rw[X]at h hs;simp only at h;obtain⟨o,ho,rfl⟩:=C9y.1 h;obtain⟨o',C,_,I,_⟩:=A0k hs (b:=b) rfl;rw[ho]at C;cases C;exact⟨b,rfl,rfl,by show ((H.minus [b]).set b _).Le _;rw[Y1,I];exact D1G _⟩
   |_=>rw[X]at h;simp at h
  case call cc=>
   obtain⟨callee,args,M⟩:=cc;cases callee with
   |value f=>
    simp only[H8]at h;simp only[N9]at j;simp only[C8];split at h
    ·rename_i g first cap hf
     cases h;rw[hf]at j⊢;simp only at j⊢;refine(j H (fun k cs hk=>hk) (fun b hb=>rfl)).mono fun d H' y=>?_;unfold CR.post at y;unfold Ef.okH Ef.app;cases hn:c.new with
     |none=>rw[hn]at y;exact⟨0,by simp only[hn],by simp only[CR.f,hn];exact y.1,by simp only[hn];exact y.2⟩
     |some o=>
      rw[hn]at y;obtain⟨b,h1,G,T⟩:=y;exact⟨b,by simp only[hn];exact h1,by simp only[CR.f,hn];exact G,by simp only[hn];exact T⟩
    ·cases h
   |invoke r m=>simp[H8]at h
   |builtin b=>
    cases b
    case append=>
     unfold H8 at h;simp only at h;simp only[C8];split at h
     ·rename_i t t' s x h1 G;simp only[h1,G];unfold B1A at h;obtain⟨⟨e',sz,A⟩,V,h⟩:=C91.1 h;split at h
      ·rename_i q;simp only at q h;obtain⟨xs,Y,h⟩:=C91.1 h;refine⟨e',sz,A,V,q.1,q.2.1,q.2.2,xs,Y,?_⟩;split at h
       ·rename_i J;split at h
        ·rename_i hx;cases h;rw[J];refine⟨hx.1,hx.2.1,fun he=>by rw[he]at hx;simp at hx,fun _ b hb=>⟨b,.inl hb,rfl,?_⟩⟩;intro k o hk;simp only[Ef.app,Heap.set]at hk⊢;split at hk
         ·rename_i u;rw[if_pos u];exact hk
         ·rename_i u;rw[if_neg u];exact A5Z _ _ k o hk
        ·cases h
       ·rename_i b sz' lo n J;split at h
        ·rename_i a4 es hb;split at h
         ·rename_i hx;obtain⟨x1,x2,x3,x4,x5,x6⟩:=hx;subst x1;subst x2;subst x3;cases h;rw[J];refine⟨rfl,.inl ⟨rfl,es,hb,x4,x5,x6,fun b' a0=>⟨b',?_,rfl,?_⟩⟩⟩
          ·show H b'=none∨b'∈b::_;rcases B3g.1 a0 with h|h
           ·exact .inr (by rw[h];exact C90 ..)
           ·exact .inl h
          ·intro k o hk;simp only[Ef.app,Heap.set]at hk⊢;split at hk
           ·rename_i u;rw[if_pos u];exact hk
           ·rename_i u;rw[if_neg u];unfold Heap.minus at hk;split at hk
            ·cases hk
            ·rename_i L;simp only[D0H,not_or]at L;unfold Heap.del;rw[if_neg L.1];exact hk
         ·cases h
        ·cases h
       ·cases h
      ·cases h
     ·cases h
    all_goals cases h
  case makeMap t r=>
   cases r with
   |none=>
    simp only[H8,D0R]at h;subst h;exact fun b hb=>⟨b,.inl hb,rfl,by show ((H.minus []).set b _).Le _;rw[F4];exact D1G _⟩
   |some r=>simp[H8]at h
  all_goals cases h
structure StF(N:Nat)(w0:World)(H0:Heap)(F:FEnv)(H:Heap)(U:Nat→Prop)(a:Act)(w:World):Prop where
 size:a.tmps.size=N
 defers:a.defers= []
 env: ∀i,R w H (F i) (a.eval (.tmp i))
 sat:Sat H w
 ext:Ext H0 w0 w
 frm:From w0 H0 H
 dom:Dom H U
 lt: ∀b,U b→b<w.heap.size
theorem StF.evR{N:Nat}{w0:World}{H0:Heap}{F:FEnv}{U:Nat→Prop}{a:Act}{w:World}(h:StF N w0 H0 F H U a w)(x:Operand):R w H (F.ev x) (a.eval x):=by
 cases x with
 |tmp t=>exact h.env t
 |const v=>exact A2A w H v
 |global g=>exact .glob g
 |func f=>exact .fn _ _ _ _ _ rfl rfl (by simp) (by simp)
theorem B1E{e:Ef}{b:Nat}{o:Obj}{H:Heap}(h:e.new=some o):e.app b H b=some o:=by unfold Ef.app;rw[h];simp[Heap.set]
theorem A9Z{N:Nat}{w0:World}{H0:Heap}{o:Oper}{K:Kf}{F:FEnv}{U:Nat→Prop}{a:Act}{w:World}(W: ∀t,o.dst=some t→t<N)(h:A0E P c bb o K F H U)(hst:StF N w0 H0 F H U a w):
  opSem P none o a w fun v w'=>∃L H' M,StF N w0 H0 L H' M (a.put o.dst v) w'∧K L H' M:=by
 obtain⟨e,he,r,j,hk⟩:=h;refine(N0 (o:=o) hst.sat hst.evR (B8K he r j)).mono fun v w' hp=>?_;obtain⟨d,H',X,O,G,T,b,hb,rfl,g⟩:=hp;have u: ∀ob,e.new=some ob→H b=none→w.heap.size≤b:=fun ob x m=>by
  rcases Nat.lt_or_ge b w.heap.size with I|J
  ·have h1:=T b I (G9 m);have Y:=g b ob (B1E x);rw[I6 Y,r.new ob x]at h1;cases h1
  ·exact J
 have z:e.okB b U:=by
  unfold Ef.okH at hb;unfold Ef.okB;cases hn:e.new with
  |none=>trivial
  |some ob=>
   rw[hn]at hb;cases V:e.at_ with
   |none=>
    rw[V]at hb;exact hb.imp (fun m hU=>by have:=hst.lt b hU;have:=u ob hn m;omega) id
   |some y=>rw[V]at hb;exact hb
 refine⟨F.put o.dst (e.val b),e.app b H,e.used b U,?_,hk b z⟩;have p:From w H (e.app b H):=T.less g;refine⟨?_,?_,fun i=>?_,O.less g,hst.ext.trans hst.frm G,hst.frm.trans hst.ext.size p,hst.dom.app z,fun k hk=>?_⟩
 ·cases o.dst<;>simp[Act.put,hst.size]
 ·cases o.dst<;>exact hst.defers
 ·cases A:o.dst with
  |none=>exact(hst.env i).mono G p
  |some t=>
   have ht:=W t A;simp only[FEnv.put];by_cases q:t=i
   ·subst q;rw[if_pos rfl];have:(a.put (some t) v).eval (.tmp t)=v:=by
     have h':t<a.tmps.size:=by rw[hst.size];exact ht
     simp[Act.eval,Act.put,h']
    rw[this];exact X.less g
   ·rw[if_neg q];have:(a.put (some t) v).eval (.tmp i)=a.eval (.tmp i):=by
     simp[Act.eval,Act.put,D0T q]
    rw[this];exact(hst.env i).mono G p
 ·rcases used_inv hk with hk|⟨hn,rfl⟩
  ·exact D0l (hst.lt k hk) G.size
  ·cases C:e.new with
   |none=>exact absurd C hn
   |some ob=>exact O.lt (g k ob (B1E C))
theorem A4V{N:Nat}{w0:World}{H0:Heap}{F:FEnv}{H:Heap}{U:Nat→Prop}{a:Act}{w:World}{o:Oper}{r:Bool}(hst:StF N w0 H0 F H U a w)(h:A1i (O0 ops) F o.guard=some r):Region.wanted o (yielded ops a.tmps)=r:=by
 cases d:o.guard with
 |none=>rw[d]at h;cases h;simp[Region.wanted,d]
 |some p=>
  obtain⟨j,m⟩:=p;rw[d]at h;unfold A1i at h;simp only[]at h;rw[B2K]at h;cases hs:(ops[j]?).bind (·.dst)with
  |none=>
   rw[hs]at h;cases h;have e:yielded ops a.tmps j=none:=by unfold yielded;rw[hs];rfl
   simp[Region.wanted,d,e]
  |some s=>
   rw[hs]at h;simp only[]at h;have hv:=hst.env s;split at h
   ·rename_i i;cases h;rw[i]at hv;obtain⟨vs,hv,_⟩:=hv.tuple_inv;have e:yielded ops a.tmps j=none:=by
     unfold yielded;rw[hs];simp only[D0J];simp only[Act.eval]at hv;cases g:a.tmps[s]? with
     |none=>rfl
     |some u=>
      simp[g]at hv;subst hv;rfl
    simp[Region.wanted,d,e]
   ·rename_i b i;cases h;rw[i]at hv;have hv:=hv.bool_inv;have e:yielded ops a.tmps j=some b:=by
     unfold yielded;rw[hs];simp only[D0J];simp only[Act.eval]at hv;cases g:a.tmps[s]? with
     |none=>
      simp[g]at hv;cases hv
     |some u=>
      simp[g]at hv;subst hv;rfl
    simp[Region.wanted,d,e]
   ·cases h
theorem StF.skip{N:Nat}{w0:World}{H0:Heap}{F:FEnv}{H:Heap}{U:Nat→Prop}{a:Act}{w:World}(hst:StF N w0 H0 F H U a w){dst:Option Nat}(e: ∀t,dst=some t→t<N):StF N w0 H0 (F.put dst (.tuple [])) H U (a.put dst undef) w:=by
 refine⟨?_,?_,fun i=>?_,hst.sat,hst.ext,hst.frm,hst.dom,hst.lt⟩
 ·cases dst<;>simp[Act.put,hst.size]
 ·cases dst<;>exact hst.defers
 ·cases dst with
  |none=>exact hst.env i
  |some t=>
   have g:=e t rfl;simp only[FEnv.put];by_cases d:t=i
   ·subst d;rw[if_pos rfl];have:(a.put (some t) undef).eval (.tmp t)=undef:=by
     have h:t<a.tmps.size:=by rw[hst.size];exact g
     simp[Act.eval,Act.put,h]
    rw[this];exact .tuple [] #[] rfl (by simp)
   ·rw[if_neg d];have:(a.put (some t) undef).eval (.tmp i)=a.eval (.tmp i):=by
     simp[Act.eval,Act.put,D0T d]
    rw[this];exact hst.env i
theorem A1B{N:Nat}{w0:World}{H0:Heap}{K:Kf}{Q:Exit→Act→World→Prop}(g: ∀o∈ops.toList,∀t,o.dst=some t→t<N)
  (j: ∀F H U a w,StF N w0 H0 F H U a w→K F H U→Q .normal a w): ∀(fuel:Nat) (d:Array Bool) (F:FEnv) (H:Heap) (U:Nat→Prop) (a:Act) (w:World),
  B3d P cs bs md ops K fuel d F H U→StF N w0 H0 F H U a w→Go.wpAny P md ops Q fuel d a w
 |0,_,F,H,U,a,w,h,hst=>⟨h.1,j _ _ _ _ _ hst h.2⟩
 |fuel+1,d,F,H,U,a,w,h,hst=>⟨fun p=>j _ _ _ _ _ hst (h.1 p),fun i q=>by
   have h1:=h.2 i q;unfold sE at h1;unfold Go.wpOp;split
   ·rename_i hn;simp only[hn]at h1;exact A1B g j fuel _ _ _ _ _ _ h1 hst
   ·rename_i o ho;simp only[ho]at h1;have e:o∈ops.toList:=by rw[D0U];exact Array.mem_of_getElem? ho
    rcases h1 with⟨hr,h1⟩|⟨hr,h1⟩
    ·rw[if_pos (A4V hst hr)];exact .inl (opSem.wp ((A9Z (g o e) h1 hst).mono fun v w' hv=>by
      obtain⟨r,H',u,m,hk⟩:=hv;exact A1B g j fuel _ _ _ _ _ _ hk m))
    ·rw[if_neg (by rw[A4V hst hr];exact Bool.false_ne_true)];exact A1B g j fuel _ _ _ _ _ _ h1 (hst.skip (g o e))⟩
def wpP(P:Program)(gs:List (Option Nat))(cs:Nat→CR)(bs:Nat→Bl)(K:Env→Heap→Prop):Nat→List Oper→Env→Heap→Prop
 |_,[],E,H=>K E H
 |i,o::l,E,H=>match o.guard with
  |none=>∃e,j5 P (cs i) (bs i).l E.ev H o.op=some e∧A5e (bs i) H e∧N9 P (cs i) (bs i).l E.ev H o.op∧∀b,e.okH b H→wpP P gs cs bs K (i+1) l (E.put o.dst (e.val b)) (e.app b H)
  |some (j,want)=>A1h E (H6 gs j) want
    (fun E=>∃e,j5 P (cs i) (bs i).l E.ev H o.op=some e∧A5e (bs i) H e∧N9 P (cs i) (bs i).l E.ev H o.op∧∀b,e.okH b H→wpP P gs cs bs K (i+1) l (E.put o.dst (e.val b)) (e.app b H))
    (fun E=>wpP P gs cs bs K (i+1) l (E.put o.dst (.tuple [])) H)
theorem A3z{p:List (Option Nat)}{K:Env→Heap→Prop}: ∀(l:List Oper) (i:Nat) (E:Env) (F:FEnv) (H:Heap) (U:Nat→Prop),(∀t,E.get t=F t)→Dom H U→wpP P p cs bs K i l E H→A6z P p cs bs (fun F H _=>∃E,(∀t,E.get t=F t)∧K E H) i l F H U
 | [],i,E,F,H,U,g,z,h=>⟨E,g,h⟩
 |o::l,i,E,F,H,U,g,z,h=>by
  have put: ∀(E:Env) (d:D),(∀t,E.get t=F t)→∀t,(E.put o.dst d).get t=(F.put o.dst d) t:=fun E d g t=>by
   cases o.dst with
   |none=>exact g t
   |some u=>
    simp only[Env.put,Env.get,FEnv.put];split
    ·rfl
    ·exact g t
  have y: ∀(E:Env),(∀t,E.get t=F t)→F.ev=E.ev:=fun E g=>by
   funext x
   cases x with
   |tmp t=>exact(g t).symm
   |_=>rfl
  have run: ∀(E:Env),(∀t,E.get t=F t)→(∃e,j5 P (cs i) (bs i).l E.ev H o.op=some e∧A5e (bs i) H e∧N9 P (cs i) (bs i).l E.ev H o.op∧∀b,e.okH b H→wpP P p cs bs K (i+1) l (E.put o.dst (e.val b)) (e.app b H))→
    A0E P (cs i) (bs i) o (A6z P p cs bs (fun F H _=>∃E,(∀t,E.get t=F t)∧K E H) (i+1) l) F H U:=fun E g h=>by
   obtain⟨e,he,C,q,hk⟩:=h;exact⟨e,by rw[y E g];exact he,C,by rw[y E g];exact q,fun b hb=>A3z l (i+1) (E.put o.dst (e.val b)) _ _ _ (put E _ g) (z.app hb) (hk b (C1o z hb))⟩
  have skip: ∀(E:Env),(∀t,E.get t=F t)→wpP P p cs bs K (i+1) l (E.put o.dst (.tuple [])) H→A6z P p cs bs (fun F H _=>∃E,(∀t,E.get t=F t)∧K E H) (i+1) l (F.put o.dst (.tuple [])) H U:=fun E g h=>
   A3z l (i+1) (E.put o.dst (.tuple [])) _ _ _ (put E _ g) z h
  have know: ∀(E:Env) (s:Nat) (d:D),(∀t,E.get t=F t)→E.get s=d→∀t,Env.get ((s,d)::E) t=F t:=fun E s d g hs t=>by
   simp only[Env.get];split
   ·rename_i e;subst e;rw[←hs];exact g s
   ·exact g t
  unfold wpP at h;unfold A6z;cases r:o.guard with
  |none=>
   rw[r]at h;exact .inl ⟨by rw[r];rfl,run E g h⟩
  |some J=>
   obtain⟨j,m⟩:=J;rw[r]at h;simp only[]at h;unfold A1h at h;cases hs:H6 p j with
   |none=>
    rw[hs]at h;exact .inr ⟨by rw[r];simp only[A1i,hs],skip E g h⟩
   |some s=>
    rw[hs]at h;rcases h with⟨L,h⟩|⟨b,hb,h1,M⟩
    ·have A:F s= .tuple []:=by rw[←g];exact L
     exact .inr ⟨by rw[r];simp only[A1i,hs,A],skip E g h⟩
    ·have A:F s= .bool b:=by rw[←g];exact hb
     by_cases G:b=m
     ·subst G;exact .inl ⟨by rw[r];simp only[A1i,hs,A,beq_self_eq_true],run _ (know E s _ g hb) (h1 rfl)⟩
     ·have I:b= !m:=by cases b<;>cases m<;>simp_all
      subst I;exact .inr ⟨by rw[r];simp only[A1i,hs,A];cases m<;>rfl,skip _ (know E s _ g hb) (M rfl)⟩
theorem C1p(n:Nat)(l:List Nat): ∃b,¬(b<n)∧b∉l:=by
 refine⟨n+l.sum+1,by omega,fun h=>?_⟩;have: ∀(l:List Nat) (x:Nat),x∈l→x≤l.sum:=by
  intro l
  induction l with
  |nil=>intro x hx;cases hx
  |cons y l d=>
   intro x hx;rcases D0H.1 hx with rfl|hx
   ·simp
   ·have:=d x hx;simp;omega
 have:=this l _ h;omega
theorem A30{w:World}(hs:Sat H w):Dom H (fun b=>b<w.heap.size):=⟨fun b hb=>by
 cases h:H b with
 |none=>exact absurd h hb
 |some o=>exact hs.lt h,C1p _⟩
theorem B45{N:Nat}{w0:World}{H0:Heap}{id:Nat}{K:Env→Heap→Prop}{Q:Exit→Act→World→Prop}{a:Act}{w:World}{E:Env}(hm:P.follows .mixedOrders=true)(e:B2L P ops=true)
  (p: ∀o∈ops.toList,∀t,o.dst=some t→t<N)
  (q: ∀E H a w,a.tmps.size=N→a.defers= []→(∀i,R w H (E.get i) (a.eval (.tmp i)))→Sat H w→Ext H0 w0 w→From w0 H0 H→K E H→Q .normal a w)
  (h1:a.tmps.size=N) (r:a.defers= []) (u: ∀i,R w H (E.get i) (a.eval (.tmp i))) (x:Sat H w) (h5:Ext H0 w0 w) (m:From w0 H0 H)
  (g:B3f bs 0 ops.toList) (h:wpP P (O0 ops) cs bs K 0 ops.toList E H):(Code.region id ops true).wp P Q a w:=by
 have he:Ext H w {w with drawn:=w.drawn+1}:=Ext.drewN H w 1;have d:=x.same (w':={w with drawn:=w.drawn+1}) rfl he;refine wp_region_any hm (A1B (P:=P) (cs:=cs) (bs:=bs) (md:=.any) (ops:=ops) (K:=fun F H _=>∃E,(∀t,E.get t=F t)∧K E H) p (fun F H U a w hst hk=>?_) ops.size _ _ _ _ a {w with drawn:=w.drawn+1} ?_
  (⟨h1,r,fun i=>(u i).mono he (D1M _ _),d,h5.trans m he,m,A30 d,fun b hb=>hb⟩:StF N w0 H0 E.get H (fun b=>b<({w with drawn:=w.drawn+1}:World).heap.size) a {w with drawn:=w.drawn+1}))
 ·obtain⟨E,y,hk⟩:=hk;exact q E H a w hst.size hst.defers (fun i=>by rw[y];exact hst.env i) hst.sat hst.ext hst.frm hk
 ·have:=A9Y (P:=P) (cs:=cs) (bs:=bs) (ops:=ops) ops.toList 0 (Array.replicate ops.size false) (by simp) (by intro j;simp[Array.getElem?_replicate];split<;>rfl) (by simp) e g E.get H _ (A30 d)
   (A3z ops.toList 0 E E.get H _ (fun _=>rfl) (A30 d) h)
  simpa using this
end
section
variable {P:Program} {H H':Heap} {ev ev':Operand→D} {bl:List Nat}
theorem A0l{op:Op}{K:D→Heap→Prop}(hc:I5 P op= .pure):C8 P ev H K op= ∃d,K2 P ev op=some d∧K d H:=by
 cases op
 case convert s t x=>simp only[C8,hc]
 case call cc=>
  obtain⟨callee,args,e⟩:=cc;cases callee with
  |value f=>simp[I5]at hc
  |invoke r m=>simp[I5]at hc
  |builtin b=>cases b<;>first|(simp only[C8,hc];done)|(simp[I5]at hc;done)
 all_goals first
  |rfl
  |(simp[I5]at hc;done)
  |(simp only[C8,hc];done)
theorem B1F{op:Op}{K:D→Heap→Prop}(h: ∀x∈op.operands.toList,ev x=ev' x):C8 P ev H K op=C8 P ev' H K op:=by
 by_cases hc:I5 P op= .pure
 ·rw[A0l hc,A0l hc,A1g hc h]
 ·cases op
  case load t x=>simp only[C8,h x (by simp[Op.operands])]
  case store t a x=>simp only[C8,h a (by simp[Op.operands]),h x (by simp[Op.operands])]
  case box t x=>simp only[C8,h x (by simp[Op.operands])]
  case lookup t m k ok=>simp only[C8,h m (by simp[Op.operands]),h k (by simp[Op.operands])]
  case mapUpdate t m k x=>simp only[C8,h m (by simp[Op.operands]),h k (by simp[Op.operands]),h x (by simp[Op.operands])]
  case buildSlice t n parts=>simp only[C8,A5f (ev:=ev) (ev':=ev') (l:=parts.toList) (fun x hx=>h x (by simpa [Op.operands]using hx))]
  case makeSlice t l c=>simp only[C8,h l (by simp[Op.operands]),h c (by simp[Op.operands])]
  case range t x=>simp only[C8,h x (by simp[Op.operands])]
  case next x b=>simp only[C8,h x (by simp[Op.operands])]
  case entry x=>simp only[C8,h x (by simp[Op.operands])]
  case convert s t x=>
   have hx:=h x (by simp[Op.operands]);have e1:A24 P ev H K s t x=A24 P ev' H K s t x:=by unfold A24;rw[hx]
   simp only[C8];exact e1
  case call cc=>
   obtain⟨callee,args,g⟩:=cc;cases callee with
   |value f=>
    have i:=h f (by simp[Op.operands,Call.operands]);have j:=A2g (ev:=ev) (ev':=ev') (l:=args.toList) (fun x hx=>h x (by simp[Op.operands,Call.operands];exact .inr (by simpa using hx)));simp only[C8,i,j]
   |invoke r m=>simp only[C8]
   |builtin b=>
    cases b
    case append=>
     unfold C8;simp only;split
     ·rename_i t o s x h1 e;have e1:=h s (by simp[Op.operands,Call.operands,←D0U,e]);have e2:=h x (by simp[Op.operands,Call.operands,←D0U,e]);unfold A05;rw[e1,e2]
     ·rfl
    case len=>
     unfold C8;simp only;split
     ·rename_i x e;rw[h x (by simp[Op.operands,Call.operands,←D0U,e])]
     ·rfl
    all_goals
     unfold C8;simp only
     try(split<;>first|rfl|(rename_i d;exact absurd d hc))
  case makeMap t r=>cases r<;>first|rfl|(unfold C8;simp only;try(split<;>first|rfl|(rename_i d;exact absurd d hc)))
  all_goals first
   |rfl
   |(unfold C8;simp only;try(split<;>first|rfl|(rename_i d;exact absurd d hc)))
theorem A31{op:Op}{K M:D→Heap→Prop}(j: ∀d H,K d H→M d H)(h:C8 P ev H K op):C8 P ev H M op:=by
 by_cases hc:I5 P op= .pure
 ·rw[A0l hc]at h⊢;obtain⟨d,h1,o⟩:=h;exact⟨d,h1,j _ _ o⟩
 ·cases op
  case load t x=>obtain⟨d,h1,o⟩:=h;exact⟨d,h1,j _ _ o⟩
  case store t a x=>obtain⟨d,h1,o⟩:=h;exact⟨d,h1,j _ _ o⟩
  case box t x=>exact⟨h.1,fun b hb=>j _ _ (h.2 b hb)⟩
  case alloc t=>obtain⟨z,h1,o⟩:=h;exact⟨z,h1,fun b hb=>j _ _ (o b hb)⟩
  case lookup t m k ok=>obtain⟨d,h1,o⟩:=h;exact⟨d,h1,j _ _ o⟩
  case mapUpdate t m k x=>obtain⟨d,h1,o⟩:=h;exact⟨d,h1,j _ _ o⟩
  case buildSlice t n parts=>obtain⟨e,sz,u,z,es,h1,o,y,A,h5,q,O⟩:=h;exact⟨e,sz,u,z,es,h1,o,y,A,h5,q,fun b hb=>j _ _ (O b hb)⟩
  case makeSlice t l c=>obtain⟨e,sz,u,z,k,n,k',m,h1,o,y,A,h5,q,O,h8,h9,T,U⟩:=h;exact⟨e,sz,u,z,k,n,k',m,h1,o,y,A,h5,q,O,h8,h9,T,fun b hb=>j _ _ (U b hb)⟩
  case range t x=>
   unfold C8 at h⊢;simp only at h⊢;split at h
   ·exact⟨h.1,fun b hb=>j _ _ (h.2 b hb)⟩
   ·exact⟨h.1,fun b hb=>j _ _ (h.2 b hb)⟩
   ·exact h.elim
  case next x b=>
   unfold C8 at h⊢;simp only at h⊢;split at h
   ·split at h
    ·rename_i h1 o _ _ _ _;exact⟨fun g=>j _ _ (h.1 g),fun g=>j _ _ (h.2 g)⟩
    ·exact h.elim
   ·split at h
    ·exact⟨fun i p J C=>j _ _ (h.1 i p J C),fun g=>j _ _ (h.2 g)⟩
    ·exact h.elim
   ·exact h.elim
  case entry x=>
   unfold C8 at h⊢;simp only at h⊢;split at h
   ·split at h
    ·obtain⟨i,p,J,C,L⟩:=h;exact⟨i,p,J,C,j _ _ L⟩
    ·exact h.elim
   ·exact h.elim
  case convert s t x=>
   have e1:A24 P ev H K s t x→A24 P ev H M s t x:=fun h=>by
    unfold A24 at h⊢;split at h
    ·exact⟨h.1,h.2.1,fun b hb=>j _ _ (h.2.2 b hb)⟩
    ·rcases h with⟨h1,o,z,y,A⟩|⟨h1,o,b,z,y,A,h5,q⟩
     ·exact .inl ⟨h1,o,z,y,j _ _ A⟩
     ·exact .inr ⟨h1,o,b,z,y,A,h5,j _ _ q⟩
   simp only[C8]at h⊢;exact e1 h
  case call cc=>
   obtain⟨callee,args,a0⟩:=cc;cases callee with
   |value f=>
    unfold C8 at h⊢;simp only at h⊢;split at h
    ·exact ACalls.mono h j
    ·exact h.elim
   |invoke r m=>unfold C8 at h;simp only at h;try(split at h<;>first|exact h.elim|(rename_i G;exact absurd G hc))
   |builtin b=>
    cases b
    case append=>
     unfold C8 at h⊢;simp only at h⊢;split at h
     ·unfold A05 at h⊢;obtain⟨e,sz,u,h1,o,y,A,xs,h5,q⟩:=h;refine⟨e,sz,u,h1,o,y,A,xs,h5,?_⟩;split at q
      ·exact⟨q.1,q.2.1,fun g=>j _ _ (q.2.2.1 g),fun g b hb=>j _ _ (q.2.2.2 g b hb)⟩
      ·refine⟨q.1,?_⟩;rcases q.2 with⟨J,es,C,L,V,W,X⟩|⟨es,C,L,V,W,X⟩
       ·exact .inl ⟨J,es,C,L,V,W,fun Y I=>j _ _ (X Y I)⟩
       ·exact .inr ⟨es,C,L,V,W,fun Y pre I=>j _ _ (X Y pre I)⟩
      ·exact q.elim
     ·exact h.elim
    case len=>
     have e1:(match args.toList with| [x]=>∃kvs,W6 H (ev x)=some kvs∧K (.int .i64 kvs.length) H|_=>False)→(match args.toList with| [x]=>∃kvs,W6 H (ev x)=some kvs∧M (.int .i64 kvs.length) H|_=>False):=fun h=>by
      split at h
      ·obtain⟨kvs,h1,o⟩:=h;exact⟨kvs,h1,j _ _ o⟩
      ·exact h.elim
     unfold C8 at h⊢;simp only at h⊢;exact e1 h
    all_goals
     unfold C8 at h;simp only at h
     try(split at h<;>first|exact h.elim|(rename_i G;exact absurd G hc))
  case makeMap t r=>
   cases r with
   |none=>exact fun b hb=>j _ _ (h b hb)
   |some x=>unfold C8 at h;simp only at h;try(split at h<;>first|exact h.elim|(rename_i G;exact absurd G hc))
  all_goals (unfold C8 at h;simp only at h;try(split at h<;>first|exact h.elim|(rename_i G;exact absurd G hc)))
def B46(bl:List Nat)(ev:Operand→D):Op→Prop
 | .load _ x=>∀b∈rdB (ev x),b∈bl
 |_=>False
abbrev Kg:=FEnv→Heap→Prop
def A7w(P:Program)(bl:List Nat)(o:Oper)(K:Kg)(F:FEnv)(H:Heap):Prop:=
 o.guard=none∧(I5 P o.op= .load→B46 bl F.ev o.op)∧C8 P F.ev H (fun d H'=>(∀k∈bl,H' k=H k)∧K (F.put o.dst d) H') o.op
theorem B3h{o:Oper}{K e:Kg}(h: ∀F H,K F H→e F H){F:FEnv}{H:Heap}(hk:A7w P bl o K F H):A7w P bl o e F H:=
 ⟨hk.1,hk.2.1,A31 (fun d H' g=>⟨g.1,h _ _ g.2⟩) hk.2.2⟩
def Yld(P:Program)(bl:List Nat)(o:Oper)(d:D)(F:FEnv)(H:Heap):Prop:=
 (I5 P o.op= .pure∧K2 P F.ev o.op=some d)∨∃t x,o.op= .load t x∧(∀b∈rdB (F.ev x),b∈bl)∧q9 P t (F.ev x) H=some d
theorem C1q{o:Oper}{K:Kg}{F:FEnv}{H:Heap}(hc:I5 P o.op≠ .eff)(h:A7w P bl o K F H):o.guard=none∧∃d,Yld P bl o d F H∧K (F.put o.dst d) H:=by
 obtain⟨h1,j,g⟩:=h;refine⟨h1,?_⟩;cases e:I5 P o.op with
 |pure=>
  rw[A0l e]at g;obtain⟨d,i,_,h5⟩:=g;exact⟨d,.inl ⟨e,i⟩,h5⟩
 |load=>
  have hr:=j e;obtain⟨dst,op,ty,pos,after,guard⟩:=o;cases op<;>try exact hr.elim
  rename_i t x;obtain⟨d,i,_,h5⟩:=g;exact⟨d,.inr ⟨t,x,rfl,hr,i⟩,h5⟩
 |eff=>exact absurd e hc
theorem A5g{o:Oper}{K:Kg}{F:FEnv}{H:Heap}{d:D}(e:o.guard=none)(i:Yld P bl o d F H)(h:K (F.put o.dst d) H):A7w P bl o K F H:=by
 rcases i with⟨hc,hp⟩|⟨t,x,ho,hr,hl⟩
 ·refine⟨e,(fun g=>by rw[hc]at g;cases g),?_⟩;rw[A0l hc];exact⟨d,hp,fun _ _=>rfl,h⟩
 ·refine⟨e,fun _=>by rw[ho];exact hr,?_⟩;rw[ho];exact⟨d,hl,fun _ _=>rfl,h⟩
theorem Yld.keep{ops:Array Oper}{o:Oper}{d:D}{F:FEnv}{H H':Heap}{dst:Option Tmp}{e:D}(h:Yld P bl o d F H)(i: ∀t,dst=some t→t∉o.looksAt ops)(j: ∀k∈bl,H' k=H k):Yld P bl o d (F.put dst e) H':=by
 have g:=P5 (F:=F) (ops:=ops) (o:=o) (dst:=dst) (d:=e) i;rcases h with⟨hc,hp⟩|⟨t,x,ho,hr,hl⟩
 ·exact .inl ⟨hc,by rw[A1g hc g];exact hp⟩
 ·have hx:=g x (by rw[ho];simp[Op.operands]);refine .inr ⟨t,x,ho,by rw[hx];exact hr,?_⟩;rw[hx];unfold q9 at hl⊢;obtain⟨s,hs,hl⟩:=C91.1 hl;obtain⟨cs,hc,hl⟩:=C91.1 hl;rw[hs,D0J,A6x hc (fun b hb=>j b (hr b hb)),D0J];exact hl
section
variable {ops:Array Oper} {md:Region.Mode}
def sG(P:Program)(bl:List Nat)(ops:Array Oper)(i:Nat)(K:Kg):Kg:=match ops[i]? with
 |none=>K
 |some o=>A7w P bl o K
def A9a(P:Program)(bl:List Nat)(md:Region.Mode)(ops:Array Oper)(K:Kg):Nat→Array Bool→Kg
 |0,listed=>fun F H=>Region.ready md ops listed= []∧K F H
 |fuel+1,listed=>fun F H=>(Region.ready md ops listed= []→K F H)∧∀i∈Region.ready md ops listed,sG P bl ops i (A9a P bl md ops K fuel (listed.setIfInBounds i true)) F H
theorem B1G{K:Kg}{i:Nat}{q:Oper}{d:D}{W:Nat→Prop}(X:ops[i]? =some q)(y:q.guard=none)(hW:Closed md ops i W):
  ∀(fuel:Nat) (g:Array Bool) (F:FEnv) (H:Heap),(∀j,W j→g.getD j false=false)→
   (∀j oj,ops[j]? =some oj→¬W j→g.getD j true=false→q.apart ops oj=true)→
   i∈Region.ready md ops g→Yld P bl q d F H→A9a P bl md ops K fuel (g.setIfInBounds i true) (F.put q.dst d) H→A9a P bl md ops K (fuel+1) g F H:=by
 intro fuel
 induction fuel with
 |zero=>
  intro g F H _ _ hr M h;refine⟨fun O=>(by rw[O]at hr;cases hr),fun j z=>?_⟩;by_cases m:j=i
  ·subst m;unfold sG;simp only[X];exact A5g y M h
  ·have:=ready_mono z m;rw[h.1]at this;cases this
 |succ fuel ih=>
  intro g F H A p hr M h;refine⟨fun O=>(by rw[O]at hr;cases hr),fun j z=>?_⟩;by_cases m:j=i
  ·subst m;unfold sG;simp only[X];exact A5g y M h
  ·obtain⟨u,oj,C,_⟩:=mem_ready.1 z;have G:=hW.not_ready A z m;have T:=p j oj C G u;obtain⟨a1,a2,a3⟩:=Oper.apart_spec T;have I: ∀k,W k→(g.setIfInBounds j true).getD k false=false:=fun k hk=>by
    rw[U5 (fun e:j=k=>G (by rw[e];exact hk))];exact A k hk
   have r: ∀k ok,ops[k]? =some ok→¬W k→(g.setIfInBounds j true).getD k true=false→q.apart ops ok=true:=fun k ok hk U Y=>by
    refine p k ok hk U ?_;by_cases J:j=k
    ·subst J;exact u
    ·rw[getD_set_ne true J]at Y;exact Y
   have h1:=h.2 j (ready_mono z m);unfold sG at h1⊢;simp only[C]at h1⊢;obtain⟨g1,g2,g3⟩:=h1;have L:=P5 (F:=F) (ops:=ops) (o:=oj) (dst:=q.dst) (d:=d) a1;refine⟨g1,fun hl=>?_,?_⟩
   ·have V:=g2 hl;have key: ∀op:Op,(∀x∈op.operands.toList,(F.put q.dst d).ev x=F.ev x)→B46 bl (F.put q.dst d).ev op→B46 bl F.ev op:=fun op hv hr=>by
     cases op with
     |load t x=>
      have hx:=hv x (by simp[Op.operands]);show∀b∈rdB (F.ev x),b∈bl;rw[←hx];exact hr
     |_=>exact hr.elim
    exact key _ L V
   ·rw[B1F L]at g3;refine A31 (fun e H' hk=>⟨hk.1,ih (g.setIfInBounds j true) (F.put oj.dst e) H' I r (ready_mono hr (Ne.symm m)) (M.keep a3 hk.1) ?_⟩) g3;rw[Array.setIfInBounds_comm _ _ m,←A1j a2];exact hk.2
theorem B3i{K:Kg}{i:Nat}{q:Oper}{W:Nat→Prop}(u:ops[i]? =some q)(x:Closed md ops i W)(fuel:Nat)(d:Array Bool)(F:FEnv)(H:Heap)(o: ∀j,W j→d.getD j false=false)
  (e: ∀j oj,ops[j]? =some oj→d.getD j true=false→W j) (hr:i∈Region.ready md ops d) (h:A7w P bl q (A9a P bl md ops K fuel (d.setIfInBounds i true)) F H):A9a P bl md ops K (fuel+1) d F H:=by
 refine⟨fun y=>(by rw[y]at hr;cases hr),fun j r=>?_⟩;by_cases g:j=i
 ·subst g;unfold sG;simp only[u];exact h
 ·obtain⟨m,oj,p,_⟩:=mem_ready.1 r;exact absurd (e j oj p m) (x.not_ready o r g)
def C0i(ops:Array Oper)(i:Nat)(acc:List Nat)(j:Nat):Bool:=match ops[j]? with
 |some o=>o.after.any fun e=>Region.binds .any e&&(e.on==i||acc.contains e.on)
 |none=>false
def A4W(ops:Array Oper)(i:Nat):List Nat→List Nat→List Nat
 | [],acc=>acc
 |j::l,acc=>A4W ops i l (if C0i ops i acc j=true then j::acc else acc)
def J6(P:Program)(ops:Array Oper):List Nat→List Nat→Bool
 | [],done=>(List.range ops.size).all fun i=>done.contains i
 |i::l,done=>(match ops[i]? with
  |some o=>(o.after.all fun e=> !Region.binds .any e||done.contains e.on)&&o.guard.isNone&& !done.contains i&& !l.contains i&&
    l.all fun j=>(A4W ops i l []).contains j||(I5 P o.op != .eff&&match ops[j]? with|some oj=>o.apart ops oj|none=>false)
  |none=>false)&&J6 P ops l (i::done)
def B47(P:Program)(ops:Array Oper)(perm:List Nat):Bool:=decide (perm.length=ops.size)&&J6 P ops perm []
theorem A1C{i:Nat}: ∀(l m:List Nat),(∀j∈m,∃oj,ops[j]? =some oj∧∃e∈oj.after,Region.binds .any e=true∧(e.on=i∨e.on∈m))→
  (∀j∈A4W ops i l m,∃oj,ops[j]? =some oj∧∃e∈oj.after,Region.binds .any e=true∧(e.on=i∨e.on∈A4W ops i l m))∧(∀j∈m,j∈A4W ops i l m)∧∀j∈A4W ops i l m,j∈m∨j∈l
 | [],m,h=>⟨h,fun j p=>p,fun j p=>.inl p⟩
 |k::l,m,h=>by
  unfold A4W;split
  ·rename_i hc;have q: ∃oj,ops[k]? =some oj∧∃e∈oj.after,Region.binds .any e=true∧(e.on=i∨e.on∈m):=by
    unfold C0i at hc;split at hc
    ·rename_i o ho;obtain⟨e,he,hb⟩:=Array.any_eq_true'.1 hc;simp only[C92,D1C,beq_iff_eq,List.contains_iff_mem]at hb;exact⟨o,ho,e,he,hb.1,hb.2⟩
    ·cases hc
   obtain⟨h1,r,u⟩:=A1C l (k::m) (fun j p=>by
    rcases D0H.1 p with rfl|p
    ·obtain⟨oj,a,e,b,c,d⟩:=q;exact⟨oj,a,e,b,c,d.imp id (C97 _)⟩
    ·obtain⟨oj,a,e,b,c,d⟩:=h j p;exact⟨oj,a,e,b,c,d.imp id (C97 _)⟩)
   exact⟨h1,fun j p=>r j (C97 _ p),fun j p=>by
    rcases u j p with g|g
    ·rcases D0H.1 g with rfl|g
     ·exact .inr (C90 ..)
     ·exact .inl g
    ·exact .inr (C97 _ g)⟩
  ·obtain⟨h1,r,u⟩:=A1C l m h;exact⟨h1,r,fun j p=>(u j p).imp id (C97 _)⟩
def A9b(P:Program)(bl:List Nat)(ops:Array Oper)(K:Kg):List Nat→Kg
 | []=>K
 |i::l=>sG P bl ops i (A9b P bl ops K l)
theorem B3j{K:Kg}: ∀(l done:List Nat) (m:Array Bool),(∀j,m.getD j false=true↔j∈done)→m.size=ops.size→J6 P ops l done=true→
  ∀F H,A9b P bl ops K l F H→A9a P bl .any ops K l.length m F H:=by
 intro l
 induction l with
 |nil=>
  intro done m J hsz p F H h;refine⟨?_,h⟩;cases hr:Region.ready .any ops m with
  |nil=>rfl
  |cons x xs=>
   exfalso;have hx:x∈Region.ready .any ops m:=by rw[hr];simp
   obtain⟨h0,o,ho,_⟩:=mem_ready.1 hx;have L:=(D0E.1 ho).1;simp only[J6,D0Q,List.mem_range,List.contains_iff_mem]at p;have:=(J x).2 (p x L);rw[J5 h0]at this;cases this
 |cons i l ih=>
  intro done m J hsz p F H h;simp only[J6,C92]at p;obtain⟨p,u⟩:=p;cases M:ops[i]? with
  |none=>rw[M]at p;cases p
  |some oi=>
  rw[M]at p;simp only[C92,Bool.not_eq_true',Option.isNone_iff_eq_none,D0Q,D1C,List.contains_iff_mem,bne_iff_ne,ne_eq]at p;obtain⟨⟨⟨⟨he,hg⟩,X⟩,Y⟩,A⟩:=p;have b4:=(D0E.1 M).1;have I:i∉done:=fun g=>by rw[List.contains_iff_mem.2 g]at X;cases X
  have b6:i∉l:=fun g=>by rw[List.contains_iff_mem.2 g]at Y;cases Y
  have y:i∈Region.ready .any ops m:=by
   rw[mem_ready];refine⟨?_,oi,M,fun e a9 hb=>?_⟩
   ·have hf:m.getD i false=false:=by
     cases hh:m.getD i false with
     |false=>rfl
     |true=>exact absurd ((J i).1 hh) I
    have O:i<m.size:=by omega
    simp[O]at hf⊢;exact hf
   ·rw[J];rw[Array.all_eq_true_iff_forall_mem]at he;have:=he e a9;simpa [hb]using this
  have b0: ∀j,(m.setIfInBounds i true).getD j false=true↔j∈i::done:=fun j=>by
   by_cases T:i=j
   ·subst T;have O:i<m.size:=by omega
    simp[O]
   ·rw[getD_set_ne false T,J];simp[Ne.symm T]
  have a0:(m.setIfInBounds i true).size=ops.size:=by simpa using hsz
  obtain⟨w1,_,w3⟩:=A1C (ops:=ops) (i:=i) l [] (fun j q=>by cases q)
  let W:Nat→Prop:=fun j=>j=i∨j∈A4W ops i l []
  have a4:Closed .any ops i W:=by
   refine⟨.inl rfl,fun j oj q b1 r=>?_⟩;rcases q with q|q
   ·exact absurd q b1
   ·obtain⟨b7,a,e,b,c,d⟩:=w1 j q;rw[r]at a;cases a;exact⟨e,b,c,d⟩
  --what comes later is not listed
  have C: ∀(l done:List Nat),J6 P ops l done=true→∀j∈l,j∉done:=by
   intro l
   induction l with
   |nil=>intro _ _ j q;cases q
   |cons k l U=>
    intro done p j q;simp only[J6,C92]at p;obtain⟨p,b2⟩:=p;rcases D0H.1 q with rfl|q
    ·split at p
     ·simp only[C92,Bool.not_eq_true']at p;intro g;rw[List.contains_iff_mem.2 g]at p;simp at p
     ·cases p
    ·exact fun g=>U (k::done) b2 j q (C97 _ g)
  have a5: ∀j,W j→m.getD j false=false:=fun j q=>by
   cases hh:m.getD j false with
   |false=>rfl
   |true=>
    have hd:=(J j).1 hh;rcases q with rfl|q
    ·exact absurd hd I
    ·rcases w3 j q with g|g
     ·cases g
     ·exact absurd (C97 _ hd) (C l (i::done) u j g)
  --all that is not listed stands in the list
  have G: ∀(l done:List Nat),J6 P ops l done=true→∀j,j<ops.size→j∈done∨j∈l:=by
   intro l
   induction l with
   |nil=>
    intro done p j q;simp only[J6,D0Q,List.mem_range,List.contains_iff_mem]at p;exact .inl (p j q)
   |cons k l U=>
    intro done p j q;simp only[J6,C92]at p;rcases U (k::done) p.2 j q with g|g
    ·rcases D0H.1 g with rfl|g
     ·exact .inr (C90 ..)
     ·exact .inl g
    ·exact .inr (C97 _ g)
  have z: ∀j oj,ops[j]? =some oj→m.getD j true=false→j=i∨j∈l:=fun j oj r hu=>by
   have L:=(D0E.1 r).1;have hf:=J5 hu;rcases G l (i::done) u j L with g|g
   ·rcases D0H.1 g with rfl|g
    ·exact .inl rfl
    ·rw[(J j).2 g]at hf;cases hf
   ·exact .inr g
  have hst:A7w P bl oi (A9a P bl .any ops K l.length (m.setIfInBounds i true)) F H:=by
   have h':A7w P bl oi (A9b P bl ops K l) F H:=by
    have:sG P bl ops i (A9b P bl ops K l) F H:=h;unfold sG at this;simp only[M]at this;exact this
   exact B3h (fun F' H' g=>ih (i::done) _ b0 a0 u F' H' g) h'
  by_cases hc:I5 P oi.op= .eff
  ·refine B3i M a4 l.length m F H a5 (fun j oj r hu=>?_) y hst;rcases z j oj r hu with rfl|V
   ·exact .inl rfl
   ·rcases A j V with g|g
    ·exact .inr g
    ·exact absurd hc g.1
  ·obtain⟨b3,d,hy,hK⟩:=C1q hc hst;refine B1G M b3 a4 l.length m F H a5 (fun j oj r a6 hu=>?_) y hy hK;rcases z j oj r hu with rfl|V
   ·exact absurd (.inl rfl) a6
   ·rcases A j V with g|g
    ·exact absurd (.inr g) a6
    ·have:=g.2;rw[r]at this;exact this
structure StO(N:Nat)(w0:World)(H0:Heap)(F:FEnv)(H:Heap)(a:Act)(w:World):Prop where
 size:a.tmps.size=N
 defers:a.defers= []
 env: ∀i,R w H (F i) (a.eval (.tmp i))
 sat:Sat H w
 ext:Ext H0 w0 w
 frm:From w0 H0 H
theorem StO.evR{N:Nat}{w0:World}{H0:Heap}{F:FEnv}{a:Act}{w:World}(h:StO N w0 H0 F H a w)(x:Operand):R w H (F.ev x) (a.eval x):=by
 cases x with
 |tmp t=>exact h.env t
 |const v=>exact A2A w H v
 |global g=>exact .glob g
 |func f=>exact .fn _ _ _ _ _ rfl rfl (by simp) (by simp)
theorem B1H{N:Nat}{w0:World}{H0:Heap}{o:Oper}{K:Kg}{F:FEnv}{a:Act}{w:World}(q: ∀t,o.dst=some t→t<N)(h:A7w P bl o K F H)(hst:StO N w0 H0 F H a w):
  opSem P none o a w fun v w'=>∃p H',StO N w0 H0 p H' (a.put o.dst v) w'∧K p H':=by
 refine(N0 (o:=o) hst.sat hst.evR h.2.2).mono fun v w' hp=>?_;obtain⟨d,H',r,u,j,m,_,hk⟩:=hp;refine⟨F.put o.dst d,H',⟨?_,?_,fun i=>?_,u,hst.ext.trans hst.frm j,hst.frm.trans hst.ext.size m⟩,hk⟩
 ·cases e:o.dst<;>simp[Act.put,hst.size]
 ·cases e:o.dst<;>simp[Act.put,hst.defers]
 ·cases e:o.dst with
  |none=>exact(hst.env i).mono j m
  |some t=>
   have x:=q t e;simp only[FEnv.put];by_cases g:t=i
   ·subst g;rw[if_pos rfl];have:(a.put (some t) v).eval (.tmp t)=v:=by
     have y:t<a.tmps.size:=by rw[hst.size];exact x
     simp[Act.eval,Act.put,y]
    rw[this];exact r
   ·rw[if_neg g];have:(a.put (some t) v).eval (.tmp i)=a.eval (.tmp i):=by
     simp[Act.eval,Act.put,D0T g]
    rw[this];exact(hst.env i).mono j m
theorem A2j{N:Nat}{w0:World}{H0:Heap}{K:Kg}{Q:Exit→Act→World→Prop}(m: ∀o∈ops.toList,∀t,o.dst=some t→t<N)
  (j: ∀F H a w,StO N w0 H0 F H a w→K F H→Q .normal a w): ∀(fuel:Nat) (d:Array Bool) (F:FEnv) (H:Heap) (a:Act) (w:World),
  A9a P bl md ops K fuel d F H→StO N w0 H0 F H a w→Go.wpAny P md ops Q fuel d a w
 |0,_,F,H,a,w,h,hst=>⟨h.1,j _ _ _ _ hst h.2⟩
 |fuel+1,d,F,H,a,w,h,hst=>⟨fun p=>j _ _ _ _ hst (h.1 p),fun i q=>by
   have h1:=h.2 i q;unfold sG at h1;unfold Go.wpOp;split
   ·rename_i hn;simp only[hn]at h1;exact A2j m j fuel _ _ _ _ _ h1 hst
   ·rename_i o ho;simp only[ho]at h1;have e:o∈ops.toList:=by rw[D0U];exact Array.mem_of_getElem? ho
    rw[if_pos (by simp[Region.wanted,h1.1])];exact .inl (opSem.wp ((B1H (m o e) h1 hst).mono fun v w' hv=>by
     obtain⟨r,H',g,hk⟩:=hv;exact A2j m j fuel _ _ _ _ _ hk g))⟩
def A1k:List Oper→Nat→Option Oper
 | [],_=>none
 |o::_,0=>some o
 |_::l,i+1=>A1k l i
theorem A9c: ∀(l:List Oper) (i:Nat),A1k l i=l[i]?
 | [],_=>rfl
 |_::_,0=>rfl
 |_::l,i+1=>by rw[A1k,A9c l i];rfl
def wpG(P:Program)(bl:List Nat)(K:Env→Heap→Prop):List (Option Oper)→Env→Heap→Prop
 | [],E,H=>K E H
 |none::l,E,H=>False
 |some o::l,E,H=>(I5 P o.op= .load→B46 bl E.ev o.op)∧C8 P E.ev H (fun d H'=>(∀k∈bl,H' k=H k)∧wpG P bl K l (E.put o.dst d) H') o.op
theorem A9d{K:Env→Heap→Prop}(m: ∀(i:Nat) (o:Oper),ops[i]? =some o→o.guard=none): ∀(l:List Nat) (E:Env) (F:FEnv) (H:Heap),(∀t,E.get t=F t)→wpG P bl K (l.map (A1k ops.toList)) E H→
  A9b P bl ops (fun F H=>∃E,(∀t,E.get t=F t)∧K E H) l F H
 | [],E,F,H,e,h=>⟨E,e,h⟩
 |i::l,E,F,H,e,h=>by
  have g:F.ev=E.ev:=by
   funext x
   cases x with
   |tmp t=>exact(e t).symm
   |_=>rfl
  show sG P bl ops i _ F H;unfold sG;rw[D06,A9c,Array.getElem?_toList]at h;cases j:ops[i]? with
  |none=>rw[j]at h;exact h.elim
  |some o=>
   rw[j]at h;obtain⟨h1,p⟩:=h;simp only;refine⟨m i o j,by rw[g];exact h1,?_⟩;rw[g];refine A31 (fun d H' hk=>⟨hk.1,A9d m l (E.put o.dst d) _ H' (fun t=>?_) hk.2⟩) p;cases o.dst with
   |none=>exact e t
   |some u=>
    simp only[Env.put,Env.get,FEnv.put];split
    ·rfl
    ·exact e t
theorem A4X: ∀(l done:List Nat),J6 P ops l done=true→∀(i:Nat) (o:Oper),i∈l→ops[i]? =some o→o.guard=none
 | [],_,_,i,_,d,_=>by cases d
 |k::l,done,h,i,o,d,ho=>by
  simp only[J6,C92]at h;rcases D0H.1 d with rfl|d
  ·rw[ho]at h;simp only[C92,Option.isNone_iff_eq_none]at h;exact h.1.1.1.1.2
  ·exact A4X l (k::done) h.2 i o d ho
theorem okOrd_cover: ∀(l done:List Nat),J6 P ops l done=true→∀j,j<ops.size→j∈done∨j∈l
 | [],done,h,j,d=>by
  simp only[J6,D0Q,List.mem_range,List.contains_iff_mem]at h;exact .inl (h j d)
 |k::l,done,h,j,d=>by
  simp only[J6,C92]at h;rcases okOrd_cover l (k::done) h.2 j d with g|g
  ·rcases D0H.1 g with rfl|g
   ·exact .inr (C90 ..)
   ·exact .inl g
  ·exact .inr (C97 _ g)
theorem B48{N:Nat}{w0:World}{H0:Heap}{id:Nat}{perm:List Nat}{K:Env→Heap→Prop}{Q:Exit→Act→World→Prop}{a:Act}{w:World}{E:Env}(hm:P.follows .mixedOrders=true)(d:B47 P ops perm=true)
  (p: ∀o∈ops.toList,∀t,o.dst=some t→t<N)
  (q: ∀E H a w,a.tmps.size=N→a.defers= []→(∀i,R w H (E.get i) (a.eval (.tmp i)))→Sat H w→Ext H0 w0 w→From w0 H0 H→K E H→Q .normal a w)
  (h1:a.tmps.size=N) (r:a.defers= []) (u: ∀i,R w H (E.get i) (a.eval (.tmp i))) (x:Sat H w) (h5:Ext H0 w0 w) (m:From w0 H0 H)
  (h:wpG P bl K (perm.map (A1k ops.toList)) E H):(Code.region id ops true).wp P Q a w:=by
 simp only[B47,C92,D0B]at d;obtain⟨hlen,d⟩:=d;have y: ∀(i:Nat) (o:Oper),ops[i]? =some o→o.guard=none:=fun i o ho=>by
  rcases okOrd_cover perm [] d i (D0E.1 ho).1 with g|g
  ·cases g
  ·exact A4X perm [] d i o g ho
 have he:Ext H w {w with drawn:=w.drawn+1}:=Ext.drewN H w 1;have e:=x.same (w':={w with drawn:=w.drawn+1}) rfl he;refine wp_region_any hm ?_;rw[←hlen];refine A2j (P:=P) (bl:=bl) (md:=.any) (ops:=ops) (N:=N) (w0:=w0) (H0:=H0) (K:=fun F H=>∃E,(∀t,E.get t=F t)∧K E H) p (fun F H a w hst hk=>?_) perm.length _ E.get H a _ ?_ ?_
 ·obtain⟨E,z,hk⟩:=hk;exact q E H a w hst.size hst.defers (fun i=>by rw[z];exact hst.env i) hst.sat hst.ext hst.frm hk
 ·exact B3j perm [] _ (fun j=>by simp[Array.getElem?_replicate];split<;>simp) (by simp[hlen]) d E.get H (A9d y perm E E.get H (fun _=>rfl) h)
 ·exact⟨h1,r,fun i=>(u i).mono he (D1M _ _),e,h5.trans m he,m⟩
end
end
inductive AX where
 |normal
 |exit (id:Nat)
 |ret
def wpOps(P:Program)(gs:List (Option Nat))(K:Env→Heap→Prop):List Oper→Env→Heap→Prop
 | [],E,H=>K E H
 |o::l,E,H=>match o.guard with
  |none=>C8 P E.ev H (fun d H'=>wpOps P gs K l (E.put o.dst d) H') o.op
  |some (j,want)=>A1h E (H6 gs j) want (fun E=>C8 P E.ev H (fun d H'=>wpOps P gs K l (E.put o.dst d) H') o.op) (fun E=>wpOps P gs K l (E.put o.dst (.tuple [])) H)
structure St(N:Nat)(w0:World)(H0:Heap)(E:Env)(H:Heap)(a:Act)(w:World):Prop where
 size:a.tmps.size=N
 defers:a.defers= []
 env: ∀i,R w H (E.get i) (a.eval (.tmp i))
 sat:Sat H w
 ext:Ext H0 w0 w
 frm:From w0 H0 H
def A1D(E0:Env)(H0:Heap)(E:Env)(H:Heap):Prop:=∀(N:Nat) (w0:World) (Hz:Heap) (a:Act) (w:World),St N w0 Hz E H a w→St N w0 Hz E0 H0 a w
def B2M(body:(Env→Heap→Prop)→Env→Heap→Prop)(E:Env)(H:Heap):Prop:=
 ∃(I:Nat→Env→Heap→Prop),(∃n E0 H0,A1D E0 H0 E H∧I n E0 H0)∧∀n E H,I n E H→body (fun E' H'=>∃m E0 H0,m<n∧A1D E0 H0 E' H'∧I m E0 H0) E H
def Env.fix(E:Env)(c:Operand)(b:Bool):Env:=match c with
 | .tmp t=>(t,.bool b)::E
 |_=>E
inductive Rc where
 |rd (sx:Bool)
 |par
 |ord (perm:List Nat)
 |rg
 |wk
def A0T(id:Nat):List (Nat×Rc)→Option Rc
 | []=>none
 |(i,sx)::Z=>if id=i then some sx else A0T id Z
def A7x(P:Program)(sx:Bool)(bl:List Nat)(K:Env→Heap→Prop):List Oper→Env→Heap→Prop
 | [],E,H=>K E H
 |o::l,E,H=>o.guard=none∧B4s P sx bl E.ev H (fun d H'=>A7x P sx bl K l (E.put o.dst d) H') o.op
def X5(P:Program)(bl:List Nat)(gs:List (Option Nat))(K:Env→Heap→Prop):List Oper→Env→Heap→Prop
 | [],E,H=>K E H
 |o::l,E,H=>match o.guard with
  |none=>A5S P bl E.ev H (fun d H'=>X5 P bl gs K l (E.put o.dst d) H') o.op
  |some (j,want)=>A1h E (H6 gs j) want (fun E=>A5S P bl E.ev H (fun d H'=>X5 P bl gs K l (E.put o.dst d) H') o.op) (fun E=>X5 P bl gs K l (E.put o.dst (.tuple [])) H)
def wp(P:Program)(Z:List (Nat×Rc)):Code→(AX→Env→Heap→Prop)→Env→Heap→Prop
 | .skip,Q,E,H=>Q .normal E H
 | .region id ops _,Q,E,H=>match A0T id Z with
  |none=>wpOps P (ops.toList.map (·.dst)) (Q .normal) ops.toList E H
  |some (.rd sx)=>∃bl,(∀k∈bl,H k≠none)∧A7x P sx bl (Q .normal) ops.toList E H
  |some .par=>∃(cs:Nat→CR) (bs:Nat→Bl),B3f bs 0 ops.toList∧wpP P (ops.toList.map (·.dst)) cs bs (Q .normal) 0 ops.toList E H
  |some (.ord perm)=>∃bl:List Nat,wpG P bl (Q .normal) (perm.map (A1k ops.toList)) E H
  |some .rg=>∃bl,(∀k∈bl,H k≠none)∧X5 P bl (ops.toList.map (·.dst)) (Q .normal) ops.toList E H
  |some .wk=>∃E0 H0,A1D E0 H0 E H∧wpOps P (ops.toList.map (·.dst)) (Q .normal) ops.toList E0 H0
 | .seq a b,Q,E,H=>wp P Z a (fun x E H=>match x with| .normal=>wp P Z b Q E H| .exit i=>Q (.exit i) E H| .ret=>Q .ret E H) E H
 | .cond c x y,Q,E,H=>∃b,E.ev c= .bool b∧(b=true→wp P Z x Q (E.fix c true) H)∧(b=false→wp P Z y Q (E.fix c false) H)
 | .block id c,Q,E,H=>wp P Z c (fun x E H=>match x with| .normal=>Q .normal E H| .exit i=>if i=id then Q .normal E H else Q (.exit i) E H| .ret=>Q .ret E H) E H
 | .loop c,Q,E,H=>B2M (fun K=>wp P Z c fun x E H=>match x with| .normal=>K E H| .exit i=>Q (.exit i) E H| .ret=>Q .ret E H) E H
 | .exit id,Q,E,H=>Q (.exit id) E H
 | .ret,Q,E,H=>Q .ret E H
 | .scope c,Q,E,H=>wp P Z c Q E H
 | .label _,Q,E,H=>Q .normal E H
 |_,_,_,_=>False
def N1(P:Program)(Z:List (Nat×Rc))(N:Nat):Code→Bool
 | .region id ops d=>(ops.all fun o=>match o.dst with|some t=>decide (t<N)|none=>true)&&(match A0T id Z with|none=> !d||A3x P none ops|some (.rd sx)=> !d||A3x P (some sx) ops|some .par=>d&&B2L P ops|some (.ord perm)=>d&&B47 P ops perm|some .rg=> !d||A3x P (some true) ops|some .wk=> !d||A3x P none ops)
 | .seq a b=>N1 P Z N a&&N1 P Z N b
 | .cond _ x y=>N1 P Z N x&&N1 P Z N y
 | .block _ c=>N1 P Z N c
 | .loop c=>N1 P Z N c
 | .scope c=>N1 P Z N c
 |_=>true
section
variable {P:Program} {Z:List (Nat×Rc)} {N:Nat} {w0:World} {H0:Heap}
theorem St.ev{E:Env}{H:Heap}{a:Act}{w:World}(h:St N w0 H0 E H a w)(x:Operand):R w H (E.ev x) (a.eval x):=by
 cases x with
 |tmp t=>exact h.env t
 |const v=>exact A2A w H v
 |global g=>exact .glob g
 |func f=>exact .fn _ _ _ _ _ rfl rfl (by simp) (by simp)
theorem St.put{E:Env}{H H':Heap}{a:Act}{w w':World}(h:St N w0 H0 E H a w){dst:Option Tmp}(j: ∀t,dst=some t→t<N){d:D}{v:Value}(hv:R w' H' d v)(hs:Sat H' w')(he:Ext H w w')(g:From w H H'):
  St N w0 H0 (E.put dst d) H' (a.put dst v) w':=by
 refine⟨?_,?_,fun i=>?_,hs,h.ext.trans h.frm he,h.frm.trans h.ext.size g⟩
 ·cases dst<;>simp[Act.put,h.size]
 ·cases dst<;>exact h.defers
 ·cases dst with
  |none=>exact(h.env i).mono he g
  |some t=>
   have m:=j t rfl;simp only[Env.put,Env.get];by_cases e:t=i
   ·subst e;rw[if_pos rfl];have:(a.put (some t) v).eval (.tmp t)=v:=by
     have o:t<a.tmps.size:=by rw[h.size];exact m
     simp[Act.eval,Act.put,o]
    rw[this];exact hv
   ·rw[if_neg e];have:(a.put (some t) v).eval (.tmp i)=a.eval (.tmp i):=by
     simp[Act.eval,Act.put,D0T e]
    rw[this];exact(h.env i).mono he g
theorem St.know{E:Env}{H:Heap}{a:Act}{w:World}(h:St N w0 H0 E H a w){s:Nat}{d:D}(g:E.get s=d):St N w0 H0 ((s,d)::E) H a w:=by
 refine⟨h.size,h.defers,fun i=>?_,h.sat,h.ext,h.frm⟩;simp only[Env.get];by_cases e:s=i
 ·subst e;rw[if_pos rfl,←g];exact h.env s
 ·rw[if_neg e];exact h.env i
theorem St.weak{E d:Env}{H H':Heap}{a:Act}{w:World}(h:St N w0 H0 E H a w)(hw:A1D d H' E H):St N w0 H0 d H' a w:=hw _ _ _ _ _ h
theorem A7y{E e:Env}{H H':Heap}(o: ∀p∈e,E.get p.1=p.2)(hl:H'.Le H):A1D e H' E H:=by
 intro N w0 H0 a w h;refine⟨h.size,h.defers,fun i=>?_,h.sat.less hl,h.ext,h.frm.less hl⟩;have key: ∀(L:Env),(∀p∈L,E.get p.1=p.2)→R w H' (L.get i) (a.eval (.tmp i)):=by
  intro L
  induction L with
  |nil=>intro _;exact .undef _
  |cons p L q=>
   intro g;obtain⟨j,d⟩:=p;simp only[Env.get];by_cases m:j=i
   ·subst m;rw[if_pos rfl];have:=g (j,d) (by simp);simp only at this;rw[←this];exact(h.env j).less hl
   ·rw[if_neg m];exact q (fun p hp=>g p (by simp[hp]))
 exact key e o
theorem A0G{ops:Array Oper}{K:Env→Heap→Prop}: ∀(l:List Oper) (E:Env) (H:Heap) (a:Act) (w:World),(∀o∈l,∀t,o.dst=some t→t<N)→wpOps P (ops.toList.map (·.dst)) K l E H→St N w0 H0 E H a w→
  wpA P none ops (fun a' w'=>∃i H',St N w0 H0 i H' a' w'∧K i H') l a w:=by
 intro l
 induction l with
 |nil=>intro E H a w _ h hst;exact⟨E,H,hst,h⟩
 |cons o l G=>
  intro E H a w I h hst;have q: ∀o∈l,∀t,o.dst=some t→t<N:=fun o' y=>I o' (by simp[y]);have r:=I o (by simp);have run: ∀E,St N w0 H0 E H a w→C8 P E.ev H (fun d H'=>wpOps P (ops.toList.map (·.dst)) K l (E.put o.dst d) H') o.op→opSem P none o a w fun v w'=>wpA P none ops (fun a' w'=>∃i H',St N w0 H0 i H' a' w'∧K i H') l (a.put o.dst v) w':=by
   intro E hst h;refine(N0 hst.sat hst.ev h).mono fun v w' hp=>?_;obtain⟨d,H',h1,z,L,M,h5⟩:=hp;exact G _ _ _ _ q h5 (hst.put r h1 z L M)
  have skip: ∀E,St N w0 H0 E H a w→wpOps P (ops.toList.map (·.dst)) K l (E.put o.dst (.tuple [])) H→wpA P none ops (fun a' w'=>∃i H',St N w0 H0 i H' a' w'∧K i H') l (a.put o.dst undef) w:=
   fun E hst h=>G _ _ _ _ q h (hst.put r (.tuple [] #[] rfl (by simp)) hst.sat (D1N _ _) (D1M _ _))
  unfold wpOps at h;unfold wpA;split at h
  ·rename_i m;rw[if_pos (by simp[Region.wanted,m])];exact run E hst h
  ·rename_i j g m;have e:H6 (ops.toList.map (·.dst)) j=(ops[j]?).bind (·.dst):=by
    unfold H6;rw[D0C];cases J:ops[j]? with
    |none=>simp[J]
    |some o=>simp[J]
   unfold A1h at h;split at h
   ·rename_i hs;have p:yielded ops a.tmps j=none:=by
     unfold yielded;rw[e]at hs;rw[hs];rfl
    rw[if_neg (by simp[Region.wanted,m,p])];exact skip E hst h
   ·rename_i s hs;rcases h with⟨O,h⟩|⟨b,hb,h1,z⟩
    ·have hv:=hst.env s;rw[O]at hv;obtain⟨vs,hv,_⟩:=hv.tuple_inv;have p:yielded ops a.tmps j=none:=by
      unfold yielded;rw[e]at hs;rw[hs];simp only[D0J];simp only[Act.eval]at hv;cases x:a.tmps[s]? with
      |none=>rfl
      |some u=>
       simp[x]at hv;subst hv;rfl
     rw[if_neg (by simp[Region.wanted,m,p])];exact skip E hst h
    have hv:=hst.env s;rw[hb]at hv;have hv:=hv.bool_inv;have p:yielded ops a.tmps j=some b:=by
     unfold yielded;rw[e]at hs;rw[hs];simp only[D0J];simp only[Act.eval]at hv;cases x:a.tmps[s]? with
     |none=>
      simp[x]at hv;cases hv
     |some u=>
      simp[x]at hv;subst hv;rfl
    by_cases A:b=g
    ·subst A;rw[if_pos (by simp[Region.wanted,m,p])];exact run _ (hst.know hb) (h1 rfl)
    ·have C:b= !g:=by cases b<;>cases g<;>simp_all
     subst C;rw[if_neg (by simp[Region.wanted,m,p])];exact skip _ (hst.know hb) (z rfl)
theorem A3E{ops:Array Oper}{bl:List Nat}{K:Env→Heap→Prop}: ∀(l:List Oper) (E:Env) (H:Heap) (a:Act) (w:World),(∀o∈l,∀t,o.dst=some t→t<N)→(∀k∈bl,k<w.heap.size)→X5 P bl (ops.toList.map (·.dst)) K l E H→St N w0 H0 E H a w→
  wpA P (some (true,bl)) ops (fun a' w'=>∃i H',St N w0 H0 i H' a' w'∧K i H') l a w:=by
 intro l
 induction l with
 |nil=>intro E H a w _ _ h hst;exact⟨E,H,hst,h⟩
 |cons o l I=>
  intro E H a w J m h hst;have r: ∀o∈l,∀t,o.dst=some t→t<N:=fun o' z=>J o' (by simp[z]);have x:=J o (by simp);have run: ∀E,St N w0 H0 E H a w→A5S P bl E.ev H (fun d H'=>X5 P bl (ops.toList.map (·.dst)) K l (E.put o.dst d) H') o.op→opSem P (some (true,bl)) o a w fun v w'=>wpA P (some (true,bl)) ops (fun a' w'=>∃i H',St N w0 H0 i H' a' w'∧K i H') l (a.put o.dst v) w':=by
   intro E hst h;refine(A9R m hst.sat hst.ev h).mono fun v w' hp=>?_;obtain⟨d,H',h1,A,L,O,h5⟩:=hp;exact I _ _ _ _ r (fun k hk=>D0l (m k hk) L.size) h5 (hst.put x h1 A L O)
  have skip: ∀E,St N w0 H0 E H a w→X5 P bl (ops.toList.map (·.dst)) K l (E.put o.dst (.tuple [])) H→wpA P (some (true,bl)) ops (fun a' w'=>∃i H',St N w0 H0 i H' a' w'∧K i H') l (a.put o.dst undef) w:=
   fun E hst h=>I _ _ _ _ r m h (hst.put x (.tuple [] #[] rfl (by simp)) hst.sat (D1N _ _) (D1M _ _))
  unfold X5 at h;unfold wpA;split at h
  ·rename_i p;rw[if_pos (by simp[Region.wanted,p])];exact run E hst h
  ·rename_i j g p;have e:H6 (ops.toList.map (·.dst)) j=(ops[j]?).bind (·.dst):=by
    unfold H6;rw[D0C];cases M:ops[j]? with
    |none=>simp[M]
    |some o=>simp[M]
   unfold A1h at h;split at h
   ·rename_i hs;have q:yielded ops a.tmps j=none:=by
     unfold yielded;rw[e]at hs;rw[hs];rfl
    rw[if_neg (by simp[Region.wanted,p,q])];exact skip E hst h
   ·rename_i s hs;rcases h with⟨T,h⟩|⟨b,hb,h1,A⟩
    ·have hv:=hst.env s;rw[T]at hv;obtain⟨vs,hv,_⟩:=hv.tuple_inv;have q:yielded ops a.tmps j=none:=by
      unfold yielded;rw[e]at hs;rw[hs];simp only[D0J];simp only[Act.eval]at hv;cases y:a.tmps[s]? with
      |none=>rfl
      |some u=>
       simp[y]at hv;subst hv;rfl
     rw[if_neg (by simp[Region.wanted,p,q])];exact skip E hst h
    have hv:=hst.env s;rw[hb]at hv;have hv:=hv.bool_inv;have q:yielded ops a.tmps j=some b:=by
     unfold yielded;rw[e]at hs;rw[hs];simp only[D0J];simp only[Act.eval]at hv;cases y:a.tmps[s]? with
     |none=>
      simp[y]at hv;cases hv
     |some u=>
      simp[y]at hv;subst hv;rfl
    by_cases C:b=g
    ·subst C;rw[if_pos (by simp[Region.wanted,p,q])];exact run _ (hst.know hb) (h1 rfl)
    ·have G:b= !g:=by cases b<;>cases g<;>simp_all
     subst G;rw[if_neg (by simp[Region.wanted,p,q])];exact skip _ (hst.know hb) (A rfl)
theorem A3F{ops:Array Oper}{sx:Bool}{bl:List Nat}{K:Env→Heap→Prop}: ∀(l:List Oper) (E:Env) (H:Heap) (a:Act) (w:World),(∀o∈l,∀t,o.dst=some t→t<N)→(∀k∈bl,k<w.heap.size)→A7x P sx bl K l E H→St N w0 H0 E H a w→
  wpA P (some (sx,bl)) ops (fun a' w'=>∃i H',St N w0 H0 i H' a' w'∧K i H') l a w:=by
 intro l
 induction l with
 |nil=>intro E H a w _ _ h hst;exact⟨E,H,hst,h⟩
 |cons o l p=>
  intro E H a w j e h hst;obtain⟨q,h⟩:=h;unfold wpA;rw[if_pos (by simp[Region.wanted,q])];refine(A1e e hst.sat hst.ev h).mono fun v w' hp=>?_;obtain⟨d,H',h1,r,m,u,h5⟩:=hp;exact p _ _ _ _ (fun o' g=>j o' (by simp[g])) (fun k hk=>D0l (e k hk) m.size) h5 (hst.put (j o (by simp)) h1 r m u)
def lift(N:Nat)(w0:World)(H0:Heap)(Q:AX→Env→Heap→Prop):Exit→Act→World→Prop
 | .normal,a,w=>∃E H,St N w0 H0 E H a w∧Q .normal E H
 | .exit id,a,w=>∃E H,St N w0 H0 E H a w∧Q (.exit id) E H
 | .ret,a,w=>∃E H,St N w0 H0 E H a w∧Q .ret E H
 |_,_,_=>False
theorem B49{c:Code}{Q:Exit→Act→World→Prop}(I:Nat→Act→World→Prop){n:Nat}{a:Act}{w:World}(p:I n a w)
  (g: ∀n a w,I n a w→c.wp P (Exit.then (fun a' w'=>∃m,m<n∧I m a' w') Q) a w):(Code.loop c).wp P Q a w:=by
 intro b k cs;have key: ∀n a w,I n a w→∃e a' w',Q e a' w'∧Arrives P (lone (b.at a (.code c:: .inLoop c::k)) cs w) b k cs e a' w':=by
  intro n
  induction n using Nat.strongRecOn with
  |_ n q=>
   intro a w r;obtain⟨e,a1,i,hq,d⟩:=g n a w r b (.inLoop c::k) cs;cases e with
   |normal=>
    obtain⟨m,hm,j⟩:=hq;obtain⟨e2,a2,u,o,h⟩:=q m hm a1 i j;exact⟨e2,a2,u,o,.of_steps (Steps.trans d (.one step_inLoop)) h⟩
   |exit id=>exact⟨_,a1,i,hq,.pass (x:=.inLoop c) rfl (fun _ _=>.inl (by simp)) d⟩
   |goto l=>exact⟨_,a1,i,hq,.pass (x:=.inLoop c) rfl (fun _ _=>.inl (by simp)) d⟩
   |ret=>exact⟨_,a1,i,hq,.pass (x:=.inLoop c) rfl (fun _ _=>.inl (by simp)) d⟩
   |panic y=>exact⟨_,a1,i,hq,.pass (x:=.inLoop c) rfl (fun _ _=>.inl (by simp)) d⟩
   |outgrown=>exact⟨_,a1,i,hq,.pass (x:=.inLoop c) rfl (fun _ _=>.inl (by simp)) d⟩
 obtain⟨e,a',w',hq,d⟩:=key n a w p;exact⟨e,a',w',hq,.of_steps (.one step_loop) d⟩
theorem t7(hm:P.follows .mixedOrders=true): ∀(c:Code) (Q:AX→Env→Heap→Prop) (E:Env) (H:Heap) (a:Act) (w:World),N1 P Z N c=true→wp P Z c Q E H→St N w0 H0 E H a w→c.wp P (lift N w0 H0 Q) a w:=by
  intro c
  induction c with
  |skip=>intro Q E H a w _ h hst;exact Go.wp_skip ⟨E,H,hst,h⟩
  |region id ops d=>
    intro Q E H a w g h hst;simp only[N1,C92]at g
    have A: ∀o∈ops.toList,∀t,o.dst=some t→t<N:=fun o ho t U=>by
      have:=Array.all_eq_true_iff_forall_mem.1 g.1 o (by simpa using ho);rw[U]at this;simpa using this
    have he:Ext H w {w with drawn:=w.drawn+1}:=Ext.drewN H w 1;have p:St N w0 H0 E H a {w with drawn:=w.drawn+1}:=⟨hst.size,hst.defers,fun i=>(hst.env i).mono he (D1M _ _),hst.sat.same rfl he,hst.ext.trans hst.frm he,hst.frm⟩
    unfold wp at h;cases hz:A0T id Z with
    |none=>
      rw[hz]at h g;cases d with
      |false=>exact o9 (fun a w h=>h) (A0G ops.toList E H a w A h hst)
      |true=>exact A3C (F:=none) hm (by simpa using g.2) (fun a w h=>h) (A0G ops.toList E H a _ A h p)
    |some rc=>
      rw[hz]at h g;cases rc with
      |par=>
        simp only[C92]at g;obtain⟨_,J,u⟩:=g;subst J;obtain⟨cs,bs,Y,h⟩:=h;exact B45 hm u A (fun E H a w k1 k2 k3 k4 k5 k6 hk=>⟨E,H,⟨k1,k2,k3,k4,k5,k6⟩,hk⟩) hst.size hst.defers hst.env hst.sat hst.ext hst.frm Y h
      |ord perm=>
        simp only[C92]at g;obtain⟨_,J,u⟩:=g;subst J;obtain⟨bl,h⟩:=h;exact B48 hm u A (fun E H a w k1 k2 k3 k4 k5 k6 hk=>⟨E,H,⟨k1,k2,k3,k4,k5,k6⟩,hk⟩) hst.size hst.defers hst.env hst.sat hst.ext hst.frm h
      |wk=>
        obtain⟨E0,W,C,h⟩:=h
        (cases d with
        |false=>exact o9 (fun a w h=>h) (A0G ops.toList E0 W a w A h (hst.weak C))
        |true=>exact A3C (F:=none) hm (by simpa using g.2) (fun a w h=>h) (A0G ops.toList E0 W a _ A h (p.weak C)))
      |rg=>
      obtain⟨bl,L,h⟩:=h
      have z: ∀w:World,Sat H w→∀k∈bl,k<w.heap.size:=fun w hs k hk=>by
        cases ho:H k with
        |none=>exact absurd ho (L k hk)
        |some o=>exact hs.lt ho
      (cases d with
      |false=>exact o9 (fun a w h=>h) (A3E (bl:=bl) ops.toList E H a w A (z _ hst.sat) h hst)
      |true=>exact A3C (F:=some (true,bl)) hm (by simpa using g.2) (fun a w h=>h) (A3E (bl:=bl) ops.toList E H a _ A (z _ p.sat) h p))
      |rd sx=>
      obtain⟨bl,L,h⟩:=h
      have z: ∀w:World,Sat H w→∀k∈bl,k<w.heap.size:=fun w hs k hk=>by
        cases ho:H k with
        |none=>exact absurd ho (L k hk)
        |some o=>exact hs.lt ho
      cases d with
      |false=>exact o9 (fun a w h=>h) (A3F (sx:=sx) (bl:=bl) ops.toList E H a w A (z _ hst.sat) h hst)
      |true=>exact A3C (F:=some (sx,bl)) hm (by simpa using g.2) (fun a w h=>h) (A3F (sx:=sx) (bl:=bl) ops.toList E H a _ A (z _ p.sat) h p)
  |seq x y M O=>
    intro Q E H a w g h hst;simp only[N1,C92]at g;refine Go.wp_seq (Go.wp_mono (M _ E H a w g.1 h hst) fun e a' w' he=>?_);cases e with
    |normal=>obtain⟨r,H',j,q⟩:=he;exact O Q r H' a' w' g.2 q j
    |exit id=>obtain⟨r,H',j,q⟩:=he;exact⟨r,H',j,q⟩
    |ret=>obtain⟨r,H',j,q⟩:=he;exact⟨r,H',j,q⟩
    |_=>exact he.elim
  |cond c x y M O=>
    intro Q E H a w g h hst;simp only[N1,C92]at g;obtain⟨b,hb,h1,h2⟩:=h;have hv:=hst.ev c;rw[hb]at hv
    have G: ∀b',E.ev c= .bool b'→St N w0 H0 (E.fix c b') H a w:=fun b' a0=>by
      cases c with
      |tmp t=>exact hst.know a0
      |_=>exact hst
    refine Go.wp_cond_split hv.bool_inv (fun U=>?_) (fun U=>?_)
    · subst U;exact M Q _ H a w g.1 (h1 rfl) (G _ hb)
    · subst U;exact O Q _ H a w g.2 (h2 rfl) (G _ hb)
  |block id c V=>
    intro Q E H a w g h hst;simp only[N1]at g;refine Go.wp_block (Go.wp_mono (V _ E H a w g h hst) fun e a' w' he=>?_);cases e with
    |normal=>obtain⟨r,H',j,q⟩:=he;exact⟨r,H',j,q⟩
    |exit i=>
      obtain⟨r,H',j,q⟩:=he;simp only[Exit.inBlock];by_cases X:i=id
      · rw[if_pos X];simp only[X,if_true]at q;exact⟨r,H',j,q⟩
      · rw[if_neg X];simp only[X,if_false]at q;exact⟨r,H',j,q⟩
    |ret=>obtain⟨r,H',j,q⟩:=he;exact⟨r,H',j,q⟩
    |_=>exact he.elim
  |loop c V=>
    intro Q E H a w g h hst;simp only[N1]at g;obtain⟨I,⟨n,E0,W,hw,hI⟩,T⟩:=h;refine B49 (fun n a w=>∃E H,St N w0 H0 E H a w∧I n E H) (n:=n) ⟨E0,W,hst.weak hw,hI⟩ fun n a w a4=>?_;obtain⟨E1,H1,p,a5⟩:=a4;refine Go.wp_mono (V _ E1 H1 a w g (T n E1 H1 a5) p) fun e a' w' he=>?_;cases e with
    |normal=>
      obtain⟨r,H',j,m,E2,H2,a6,C,a9⟩:=he;exact⟨m,a6,E2,H2,j.weak C,a9⟩
    |exit id=>obtain⟨r,H',j,q⟩:=he;exact⟨r,H',j,q⟩
    |ret=>obtain⟨r,H',j,q⟩:=he;exact⟨r,H',j,q⟩
    |_=>exact he.elim
  |exit id=>intro Q E H a w _ h hst;exact Go.wp_exit ⟨E,H,hst,h⟩
  |ret=>intro Q E H a w _ h hst;exact Go.wp_ret ⟨E,H,hst,h⟩
  |scope c V=>
    intro Q E H a w g h hst;simp only[N1]at g;refine Go.wp_scope_straight (Go.wp_mono (V Q E H a w g h hst) fun e a' w' he=>?_);cases e with
    |goto l=>exact he.elim
    |_=>exact he
  |label l=>intro Q E H a w _ h hst;exact Go.wp_label ⟨E,H,hst,h⟩
  |_=>intro Q E H a w _ h _;exact h.elim
end
def A0H(P:Program)(E:Env)(H:Heap):ResultVar→Option D
 | .tmp t=>some (E.get t)
 | .cell a t=>q9 P t (E.get a) H
def A2k(P:Program)(rs:List ResultVar)(E:Env)(H:Heap):Option D:=(rs.mapM (A0H P E H)).map fun
 | [d]=>d
 |ds=>.tuple ds
def Shift(H:Heap)(d:D)(H':Heap)(d':D):Prop:=∀w v,R w H d v→Sat H w→R w H' d' v∧Sat H' w∧∀k,H.held k=false→H'.held k=false
theorem Shift.less{H H':Heap}(h:H'.Le H)(d:D):Shift H d H' d:=fun _ _ hr hs=>⟨hr.less h,hs.less h,fun _ hn=>h.held hn⟩
theorem Shift.trans{H H' j:Heap}{d d' m:D}(h:Shift H d H' d')(k:Shift H' d' j m):Shift H d j m:=fun w v hr hs=>
 let ⟨a,b,c⟩:=h w v hr hs;let ⟨e,f,g⟩:=k w v a b;⟨e,f,fun i o=>g i (c i o)⟩
def A7z(P:Program)(rs:List ResultVar)(Q:D→Heap→Prop):AX→Env→Heap→Prop
 | .exit _,_,_=>False
 |_,E,H=>∃r,A2k P rs E H=some r∧∃H' r',Shift H r H' r'∧Q r' H'
def U6:Nat→List D→Env
 |_,[]=>[]
 |i,d::ds=>(i,d)::U6 (i+1) ds
section
variable {P:Program}
theorem t8: ∀(ds:List D) (k i:Nat),(U6 k ds).get i=if k≤i then(ds[i-k]?).getD .undef else .undef
 | [],k,i=>by simp[U6,Env.get]
 |d::ds,k,i=>by
  simp only[U6,Env.get];by_cases e:k=i
  ·subst e;rw[if_pos rfl,if_pos (C99 _)];simp
  ·rw[if_neg e,t8 ds];by_cases h:k+1≤i
   ·rw[if_pos h,if_pos (by omega),show i-k=(i-(k+1))+1 by omega,D0L]
   ·rw[if_neg h,if_neg (by omega)]
theorem A2F{N:Nat}{w0:World}{H0:Heap}{E:Env}{H:Heap}{a:Act}{w:World}(hst:St N w0 H0 E H a w){fn:Func}{r:D}(h:A2k P fn.results.toList E H=some r):
  ∃v,(results fn a.tmps).run P w= .ok v w∧R w H r v:=by
 unfold A2k at h;obtain⟨ds,G,hr⟩:=C9y.1 h;have key: ∀(p:List ResultVar) (ds:List D),p.mapM (A0H P E H)=some ds→∃vs:List Value,(p.mapM fun(x:ResultVar)=>match x with| .tmp t=>(pure (a.tmps.getD t undef):Sem Value)| .cell b t=>do loadVar t (←asAddr (a.tmps.getD b undef))).run P w= .ok vs w∧ds.length=vs.length∧∀(i:Nat) d,ds[i]? =some d→R w H d (vs.getD i Go.undef):=by
  intro p
  induction p with
  |nil=>intro ds h;simp at h;subst h;exact⟨[],rfl,rfl,by simp⟩
  |cons x p T=>
   intro ds h;simp only[List.mapM_cons,Option.bind_eq_bind,C91,Option.pure_def]at h;obtain⟨U,C,V,h1,W⟩:=h;cases W;obtain⟨vs,g,hl,e⟩:=T V h1;have one: ∃v,(match x with| .tmp t=>(pure (a.tmps.getD t undef):Sem Value)| .cell b t=>do loadVar t (←asAddr (a.tmps.getD b undef))).run P w= .ok v w∧R w H U v:=by
    cases x with
    |tmp t=>
     simp only[A0H,D0R]at C;subst C;exact⟨_,rfl,hst.env t⟩
    |cell b t=>
     simp only[A0H]at C;obtain⟨u,j,I⟩:=A5T (P:=P) hst.sat C (hst.env b);refine⟨u,?_,I⟩;unfold Instr.loadAt at j;simp only[Act.eval]at j;have J: ∀(z:Value) (A:Addr) (w:World),(Instr.sureAddr z).run P w= .ok A w→(asAddr z).run P w= .ok A w:=by
      intro z A w L;cases z with
      |pointer o=>
       cases o with
       |none=>exact absurd L (by simp[Instr.sureAddr,stuck])
       |some y=>exact L
      |_=>exact absurd L (by simp[Instr.sureAddr,stuck])
     rw[Sem.run_bind]at j⊢;cases hs:(Instr.sureAddr (a.tmps.getD b undef)).run P w with
     |ok A w'=>
      have M:w'=w:=by
       unfold Instr.sureAddr at hs;split at hs
       ·cases hs;rfl
       ·cases hs
      subst M;rw[hs]at j;rw[J _ _ _ hs];exact j
     |halt x w'=>rw[hs]at j;cases j
   obtain⟨v,hv,O⟩:=one;refine⟨v::vs,?_,by simp[hl],fun i d m=>?_⟩
   ·rw[List.mapM_cons,Sem.run_bind,hv];simp only[Result.andThen_ok];rw[Sem.run_bind,g];rfl
   ·cases i with
    |zero=>simp at m;subst m;simpa using O
    |succ i=>simp at m;simpa using e i d m
 obtain⟨vs,g,hl,e⟩:=key _ _ G;have q:(results fn a.tmps).run P w= .ok (if h:vs.toArray.size=1 then vs.toArray[0]else .tuple vs.toArray) w:=by
  unfold results;rw[Sem.run_bind,Array.mapM_eq_mapM_toList];simp only[Functor.map];rw[Sem.run_bind'];exact congrArg (fun r:Result (List Value)=>(r.andThen fun a w'=>Sem.run P ((Sem.pure ∘ List.toArray) a) w').andThen fun a w'=>Sem.run P (pure (if h:a.size=1 then a[0]else Value.tuple a)) w') g
 refine⟨_,q,?_⟩
 match ds,vs,hl,hr,e with
 | [d],[v],_,hr,e=>simp only at hr;subst hr;simpa using e 0 d rfl
 | [],[],_,hr,e=>simp only at hr;subst hr;exact .tuple _ _ rfl (by simp)
 |d1::X::ds,v1::v2::vs,hl,hr,e=>
  simp only at hr;subst hr;rw[dif_neg (by simp)];exact .tuple _ _ (by simpa using hl) (fun i d m=>by simpa using e i d m)
theorem A70{f:Nat}(Z:List (Nat×Rc)){fn:Func}{c:Code}{args:List D}{H:Heap}{Q:D→Heap→Prop}(hm:P.follows .mixedOrders=true)(C:P.funcs[f]? =some fn)(hb:fn.body=some c)(o:A1c P f=true)(hn:args.length≤fn.ntmps)
  (p:N1 P Z fn.ntmps c=true) (h:wp P Z c (A7z P fn.results.toList Q) (U6 0 args) H):ACalls P f args H Q:=by
 refine⟨o,fun w vs hl G hs=>calls_of_wp C hb ?_⟩;have hst:St fn.ntmps w H (U6 0 args) H {tmps:=vs++Array.replicate (fn.ntmps-vs.size) undef,defers:=[]} w:=by
  refine⟨by simp;omega,rfl,fun i=>?_,hs,D1N _ _,D1M _ _⟩;rw[t8,if_pos (D0A _),Nat.sub_zero];cases z:args[i]? with
  |none=>exact .undef _
  |some d=>
   have I:=(C9z.1 z).1;have:({tmps:=vs++Array.replicate (fn.ntmps-vs.size) undef,defers:=[]}:Act).eval (.tmp i)=vs.getD i undef:=by
    simp only[Act.eval];exact F7 (by omega)
   rw[this];exact G i d z
 have fin: ∀(x:AX) (E:Env) (H':Heap) (a:Act) (w':World),(x= .normal∨x= .ret)→St fn.ntmps w H E H' a w'→A7z P fn.results.toList Q x E H'→
   a.defers= []∧∃v,(results fn a.tmps).run P w'= .ok v w'∧∃A,Ending.returned v= .returned A∧Post H w Q A w':=by
  intro x E H' a w' hx g hq;have q: ∃r,A2k P fn.results.toList E H'=some r∧∃j m,Shift H' r j m∧Q m j:=by rcases hx with rfl|rfl<;>exact hq
  obtain⟨r,hr,j,m,u,J⟩:=q;obtain⟨v,hv,y⟩:=A2F (P:=P) g hr;obtain⟨L,M,O⟩:=u _ _ y g.sat;exact⟨g.defers,v,hv,v,rfl,m,j,L,M,g.ext,fun k hk hn=>O k (g.frm k hk hn),J⟩
 refine Go.wp_mono (t7 hm c _ _ _ _ _ p h hst) fun e a w' he=>?_;cases e with
 |normal=>obtain⟨E,H',g,hq⟩:=he;exact fin .normal E H' a w' (.inl rfl) g hq
 |ret=>obtain⟨E,H',g,hq⟩:=he;exact fin .ret E H' a w' (.inr rfl) g hq
 |exit id=>obtain⟨E,H',g,hq⟩:=he;exact hq.elim
 |_=>exact he.elim
theorem A8{f:Nat}(Z:List (Nat×Rc)){fn:Func}{c:Code}{args:List D}{H:Heap}{Q:D→Heap→Prop}(hm:P.follows .mixedOrders=true)(g:P.funcs[f]? =some fn)(hb:fn.body=some c)
  (h:wp P Z c (A7z P fn.results.toList Q) (U6 0 args) H) (d:A1c P f=true:=by kernel_rfl) (hn:args.length≤fn.ntmps:=by exact C9q (by kernel_rfl)) (e:N1 P Z fn.ntmps c=true:=by kernel_rfl):ACalls P f args H Q:=A70 Z hm g hb d hn e h
theorem ACalls.shift{f:Nat}{args args':List D}{H H':Heap}{Q:D→Heap→Prop}(hs: ∀w (vs:Array Value),args.length=vs.size→(∀(i:Nat) d,args[i]? =some d→R w H d (vs.getD i Go.undef))→Sat H w→
  args'.length=vs.size∧(∀(i:Nat) d,args'[i]? =some d→R w H' d (vs.getD i Go.undef))∧Sat H' w∧∀k,H.held k=false→H'.held k=false) (h:ACalls P f args' H' Q):ACalls P f args H Q:=by
 refine⟨h.1,fun w vs h1 m o=>?_⟩;obtain⟨p,q,r,j⟩:=hs w vs h1 m o;refine(h.2 w vs p q r).mono fun e w' ⟨v,he,d,u,x,y,g,z,A⟩=>⟨v,he,d,u,x,y,⟨g.os,g.tape,g.output,g.size,fun k hk hn=>g.block k hk (j k hn),g.shape⟩,fun k hk hn=>z k hk (j k hn),A⟩
theorem D9(H:Heap)(b:Nat):(H.del b).Le H:=fun k o h=>by
 unfold Heap.del at h;split at h
 ·cases h
 ·exact h
theorem A5h{w:World}{H:Heap}{b sz lo n:Nat}{es:List (List D)}{v:Value}(hr:R w H (.vec b sz lo n) v)(hs:Sat H w)(hb:H b=some (.vec sz es))(hn:lo+n≤es.length):
  R w (H.del b) (.sl sz ((es.drop lo).take n)) v:=by
 have p:=hs.lt hb;obtain⟨c,T,x,y,h1,G,I,o⟩:=A2B (hs b _ hb);cases hr with
 |vec0 b sz lo off=>rw[List.take_zero];exact .sl0 _ _ _
 |vec b sz lo n cap T m z A hsz q=>
 have hlen:((es.drop lo).take n).length=n:=by simp;omega
 have g: ∀(i:Nat) (e:List D),((es.drop lo).take n)[i]? =some e→i<n∧es[lo+i]? =some e:=fun i e he=>by
  have h:=(C9z.1 he).1;rw[hlen]at h;rw[List.getElem?_take_of_lt h,List.getElem?_drop]at he;exact⟨h,he⟩
 have u:=R.sl (w:=w) (H:=H.del b) sz ((es.drop lo).take n) b (lo*sz) cap (fun i j=>c.getD ((lo+i)*sz+j) Go.undef) p (G9 (by simp[Heap.del]))
  (fun i e he=>o.each _ _ (g i e he).2) (by rw[hlen];exact q) (fun i j h J=>?_) (fun i e j d he r=>o.one _ _ _ _ (g i e he).2 r)
  (fun i e j d he r=>(o.rel _ _ _ _ (g i e he).2 r).less (D9 H b))
 ·rw[hlen]at u;exact u
 ·rw[hlen]at h;have e1:lo*sz+i*sz+j=(lo+i)*sz+j:=by rw[Nat.add_mul]
  rw[e1,S2 h1];have h5:(lo+i+1)*sz≤es.length*sz:=D0V _ (by omega);rw[Nat.add_mul (lo+i),Nat.one_mul]at h5;have L:=o.le;have C:(lo+i)*sz+j<c.size:=by omega
  simp[C]
inductive Fz(b sz:Nat)(es:List (List D)):D→D→Prop
 |same (d:D):Fz b sz es d d
 |nil (sz':Nat):Fz b sz es .nilsl (.sl sz' [])
 |vec (lo n:Nat) (h:lo+n≤es.length):Fz b sz es (.vec b sz lo n) (.sl sz ((es.drop lo).take n))
 |all:Fz b sz es (.vec b sz 0 es.length) (.sl sz es)
 |tuple (ds ds':List D) (hl:ds.length=ds'.length) (h: ∀(i:Nat) d d',ds[i]? =some d→ds'[i]? =some d'→Fz b sz es d d'):Fz b sz es (.tuple ds) (.tuple ds')
theorem Fz.R{w:World}{H:Heap}{b sz:Nat}{es:List (List D)}(hs:Sat H w)(hb:H b=some (.vec sz es)){d d':D}(h:Fz b sz es d d'): ∀{v:Value},R w H d v→R w (H.del b) d' v:=by
 induction h with
 |same d=>exact fun hr=>hr.less (D9 H b)
 |nil sz'=>intro v hr;cases hr;exact .sl0 _ _ _
 |vec lo n h=>exact fun hr=>A5h hr hs hb h
 |all=>intro v hr;have:=A5h hr hs hb (by omega);rwa [List.drop_zero,List.take_length]at this
 |tuple ds ds' hl h m=>
  intro v hr;obtain⟨vs,rfl,o,g⟩:=hr.tuple_inv;refine .tuple _ _ (by omega) fun i d' e=>?_;have p:=(C9z.1 e).1;have j:ds[i]? =some (ds[i]'(by omega)):=C96 _;exact m i _ _ j e (g i _ j)
theorem Fz.one{b sz:Nat}{es:List (List D)}{d d':D}(h:Fz b sz es d d')(h1:d.one=true):d'.one=true:=by
 cases h with
 |same=>exact h1
 |nil=>rfl
 |vec=>rfl
 |all=>rfl
 |tuple=>cases h1
inductive OFz(b sz:Nat)(es:List (List D)):Obj→Obj→Prop
 |same (o:Obj):OFz b sz es o o
 |box (cs cs':List D) (Z:Option TypeId) (hl:cs.length=cs'.length) (h: ∀(i:Nat) d d',cs[i]? =some d→cs'[i]? =some d'→Fz b sz es d d'):OFz b sz es (.box cs Z) (.box cs' Z)
 |vec (s:Nat) (xs xs':List (List D)) (hl:xs.length=xs'.length) (h: ∀(i:Nat) x x',xs[i]? =some x→xs'[i]? =some x'→x.length=x'.length∧∀(j:Nat) d d',x[j]? =some d→x'[j]? =some d'→Fz b sz es d d'):OFz b sz es (.vec s xs) (.vec s xs')
theorem A4Y{E A:Env}{H H':Heap}{b sz:Nat}{es:List (List D)}(hb:H b=some (.vec sz es))(hE: ∀p∈A,Fz b sz es (E.get p.1) p.2)
  (C: ∀k o',H' k=some o'→k≠b∧∃o,H k=some o∧OFz b sz es o o'):A1D A H' E H:=by
 intro N w0 Hz a w hst;have hs:=hst.sat;have e: ∀k,H.held k=false→H'.held k=false:=fun k hk=>by
  cases ho:H' k with
  |none=>exact G9 ho
  |some o'=>
   obtain⟨_,o,h1,G⟩:=C k o' ho;rw[I6 h1]at hk;rw[I6 ho];cases G<;>exact hk
 have I: ∀{d d':D} {v:Value},Fz b sz es d d'→R w H d v→R w H' d' v:=fun u hr=>(u.R hs hb hr).mono (D1N _ _) fun k _ hk=>by
  by_cases x:k=b
  ·subst x;cases ho:H' k with
   |none=>exact G9 ho
   |some o'=>exact absurd rfl (C k o' ho).1
  ·refine e k ?_;rw[←A0D (H:=H) (H':=H.del b) (k:=k) (by unfold Heap.del;rw[if_neg x])];exact hk
 refine⟨hst.size,hst.defers,fun i=>?_,fun k o' ho=>?_,hst.ext,fun k hk hn=>e k (hst.frm k hk hn)⟩
 ·have key: ∀(L:Env),(∀p∈L,Fz b sz es (E.get p.1) p.2)→R w H' (L.get i) (a.eval (.tmp i)):=by
   intro L
   induction L with
   |nil=>intro _;exact .undef _
   |cons p L ih=>
    intro W;obtain⟨j,d⟩:=p;simp only[Env.get];by_cases y:j=i
    ·subst y;rw[if_pos rfl];exact I (W (j,d) (by simp)) (hst.env j)
    ·rw[if_neg y];exact ih (fun p hp=>W p (by simp[hp]))
  exact key A hE
 ·obtain⟨_,o,h1,G⟩:=C k o' ho;have q:=hs k o h1;cases G with
  |same=>exact q.mono (D1N H w) (fun k _ hk=>e k hk) rfl
  |box cs cs' Z hl u=>
   obtain⟨c,T,lo,J,M,O,X,z,U⟩:=q;refine⟨c,T,lo,J,M,O,by omega,fun j d' g=>?_,U⟩;have y:=(C9z.1 g).1;have r:cs[j]? =some (cs[j]'(by omega)):=C96 _;have m:=u j _ _ r g;exact⟨m.one (z j _ r).1,I m (z j _ r).2⟩
  |vec s xs xs' hl u=>
   obtain⟨c,T,lo,J,M,O,X,z,U,Y⟩:=q;refine⟨c,T,lo,J,M,O,X,by rw[←hl];exact z,fun i x' h=>?_,fun i x' j d' h g=>?_⟩
   ·have V:=(C9z.1 h).1;have hx:xs[i]? =some (xs[i]'(by omega)):=C96 _;rw[←(u i _ _ hx h).1];exact U i _ hx
   ·have V:=(C9z.1 h).1;have hx:xs[i]? =some (xs[i]'(by omega)):=C96 _;obtain⟨hlen,m⟩:=u i _ _ hx h;have y:=(C9z.1 g).1;have r:(xs[i]'(by omega))[j]? =some ((xs[i]'(by omega))[j]'(by omega)):=C96 _;have hz:=m j _ _ r g;exact⟨hz.one (Y i _ j _ hx r).1,I hz (Y i _ j _ hx r).2⟩
theorem Shift.freeze{H:Heap}{b sz:Nat}{es:List (List D)}(hb:H b=some (.vec sz es)){d d':D}(h:Fz b sz es d d'):Shift H d (H.del b) d':=fun w v hr hs=>
 ⟨h.R hs hb hr,hs.less (D9 H b),fun _ hn=>(D9 H b).held hn⟩
theorem ACalls.freeze{f:Nat}{args args':List D}{H:Heap}{Q:D→Heap→Prop}{b sz:Nat}{es:List (List D)}(hb:H b=some (.vec sz es))(hl:args.length=args'.length)(m: ∀(i:Nat) d d',args[i]? =some d→args'[i]? =some d'→Fz b sz es d d')
  (h:ACalls P f args' (H.del b) Q):ACalls P f args H Q:=
 h.shift fun w vs h1 o g=>⟨by omega,fun i d' e=>by
  have p:=(C9z.1 e).1;have j:args[i]? =some (args[i]'(by omega)):=C96 _;exact(m i _ _ j e).R g hb (o i _ j),g.less (D9 H b),fun _ hn=>(D9 H b).held hn⟩
theorem R.nil_sl{w:World}{H:Heap}{v:Value}(sz:Nat)(h:R w H .nilsl v):R w H (.sl sz []) v:=by cases h;exact .sl0 _ _ _
theorem B0v{f:Nat}{H:Heap}{Q:D→Heap→Prop}(sz:Nat)(h:ACalls P f [.sl sz []] H Q):ACalls P f [.nilsl] H Q:=
 ACalls.shift (args':=[.sl sz []]) (fun w vs h1 g j=>⟨h1,fun i d e=>by
  match i,e with
  |0,e=>simp at e;subst e;exact(g 0 _ rfl).nil_sl sz
  |i+1,e=>simp at e,j,fun _ hn=>hn⟩) h
theorem A0P{f:Nat}{a:D}{H:Heap}{Q:D→Heap→Prop}(sz:Nat)(h:ACalls P f [a,.sl sz []] H Q):ACalls P f [a,.nilsl] H Q:=
 ACalls.shift (args':=[a,.sl sz []]) (fun w vs h1 g j=>⟨h1,fun i d e=>by
  match i,e with
  |0,e=>simp at e;subst e;exact g 0 _ rfl
  |1,e=>simp at e;subst e;exact(g 1 _ rfl).nil_sl sz
  |i+2,e=>simp at e,j,fun _ hn=>hn⟩) h
end
def B(s:ByteArray):List UInt8:=s.data.toList
@[simp] theorem Y7(s:ByteArray):(B s).length=s.size:=by simp[B]
theorem i7{s t:ByteArray}(h:B s=B t):s=t:=by
 apply ByteArray.ext;unfold B at h;exact Array.toList_inj.1 h
def S(l:List UInt8):ByteArray:=⟨l.toArray⟩
@[go_sem] theorem l9(l:List UInt8):B (S l)=l:=by simp[B,S]
theorem S_B(s:ByteArray):S (B s)=s:=i7 (l9 _)
@[go_sem] theorem O1(l:List UInt8):(S l).size=l.length:=by rw[←Y7,l9]
theorem C44{l m:List UInt8}(h:S l=S m):l=m:=by rw[←l9 l,h,l9]
@[go_sem] theorem C9X(l:List UInt8):B (ByteArray.mk l.toArray)=l:=l9 l
@[go_sem] theorem u0(x y:ByteArray):B (x++y)=B x++B y:=by simp[B,ByteArray.data_append]
attribute [go_sem] Y7
theorem A32(s:ByteArray)(l h:Nat):s.extract l h=S (((B s).take h).drop l):=by
 apply i7;rw[l9];simp[B,ByteArray.data_extract,List.extract_eq_take_drop];rw[List.drop_take]
theorem A0I(l:List UInt8):B ⟨l.toArray⟩=l:=by simp[B]
def B8N(P:Program)(Z:List (Nat×Rc))(b:Code)(Q:AX→Env→Heap→Prop):AX→Env→Heap→Prop
 | .normal,E,H=>wp P Z b Q E H
 | .exit i,E,H=>Q (.exit i) E H
 | .ret,E,H=>Q .ret E H
def A71(id:Nat)(Q:AX→Env→Heap→Prop):AX→Env→Heap→Prop
 | .normal,E,H=>Q .normal E H
 | .exit i,E,H=>if i=id then Q .normal E H else Q (.exit i) E H
 | .ret,E,H=>Q .ret E H
def A5i(Q:AX→Env→Heap→Prop)(K:Env→Heap→Prop):AX→Env→Heap→Prop
 | .normal,E,H=>K E H
 | .exit i,E,H=>Q (.exit i) E H
 | .ret,E,H=>Q .ret E H
def B2N(Q:AX→Env→Heap→Prop):Env→Heap→Prop:=fun E H=>Q .normal E H
def B5A(P:Program)(Z:List (Nat×Rc))(c:Code)(Q:AX→Env→Heap→Prop)(E:Env)(H:Heap):Prop:=B2M (fun K=>wp P Z c (A5i Q K)) E H
def opK(P:Program)(gs:List (Option Nat))(K:Env→Heap→Prop)(l:List Oper)(dst:Option Nat)(E:Env):D→Heap→Prop:=fun d H=>wpOps P gs K l (E.put dst d) H
def Q8(o:Option D)(K:D→Heap→Prop)(H:Heap):Prop:=∃d,o=some d∧K d H
def A9e(o:Option Heap)(K:D→Heap→Prop):Prop:=∃H',o=some H'∧K .undef H'
def A9f(P:Program)(Z:List (Nat×Rc))(c:Operand)(d:D)(x y:Code)(Q:AX→Env→Heap→Prop)(E:Env)(H:Heap):Prop:=∃b,d= .bool b∧(b=true→wp P Z x Q (E.fix c true) H)∧(b=false→wp P Z y Q (E.fix c false) H)
def A0U(P:Program)(gs:List (Option Nat))(K:Env→Heap→Prop)(l:List Oper)(dst:Option Nat)(op:Op)(s:Nat)(d:D)(want:Bool)(E:Env)(H:Heap):Prop:=
 (d= .tuple []∧wpOps P gs K l (E.put dst (.tuple [])) H)∨
 ∃b,d= .bool b∧(b=want→C8 P (Env.ev ((s,.bool want)::E)) H (opK P gs K l dst ((s,.bool want)::E)) op)∧(b= !want→wpOps P gs K l (Env.put ((s,.bool (!want))::E) dst (.tuple [])) H)
def B1I(P:Program)(gs:List (Option Nat))(K:Env→Heap→Prop)(l:List Oper)(dst:Option Nat)(op:Op)(s:Option Nat)(want:Bool)(E:Env)(H:Heap):Prop:=match s with
 |none=>wpOps P gs K l (E.put dst (.tuple [])) H
 |some s=>A0U P gs K l dst op s (E.get s) want E H
def B5B(P:Program)(f:D)(args:List D)(H:Heap)(K:D→Heap→Prop):Prop:=match f with
 | .fn (.func g) first captured=>ACalls P g (first++args++captured) H K
 |_=>False
def Fin(Q:D→Heap→Prop)(d:D)(H:Heap):Prop:=∃H' d',Shift H d H' d'∧Q d' H'
def B8O(o:Option D)(Q:D→Heap→Prop)(H:Heap):Prop:=∃r,o=some r∧Fin Q r H
theorem Fin.less{Q:D→Heap→Prop}{d:D}{H H':Heap}(hl:H'.Le H)(h:Q d H'):Fin Q d H:=⟨H',d,.less hl d,h⟩
theorem D1H:type_of% @Fin.less:=@Fin.less
theorem Fin.same{Q:D→Heap→Prop}{d:D}{H:Heap}(h:Q d H):Fin Q d H:=⟨H,d,.less (D1G H) d,h⟩
theorem D1K:type_of% @Fin.same:=@Fin.same
theorem Fin.freeze{Q:D→Heap→Prop}{d d':D}{H:Heap}{b sz:Nat}{es:List (List D)}(hb:H b=some (.vec sz es))(g:Fz b sz es d d')(h:Fin Q d' (H.del b)):Fin Q d H:=
 let ⟨H',e,h1,h2⟩:=h;⟨H',e,(Shift.freeze hb g).trans h1,h2⟩
theorem Fin.then{Q:D→Heap→Prop}{d:D}{H H':Heap}(hl:H'.Le H)(h:Fin Q d H'):Fin Q d H:=
 let ⟨H1,e,h1,h2⟩:=h;⟨H1,e,(Shift.less hl d).trans h1,h2⟩
theorem B2B{Q:D→Heap→Prop}{ds:List D}{H:Heap}{b sz n:Nat}{es:List (List D)}(hb:H b=some (.vec sz es))(hn:n=es.length)(h:Fin Q (.tuple (.sl sz es::ds)) (H.del b)):Fin Q (.tuple (.vec b sz 0 n::ds)) H:=by
 subst hn;refine Fin.freeze hb (.tuple _ _ (by simp) fun i d d' h1 e=>?_) h;cases i with
 |zero=>simp at h1 e;subst h1;subst e;exact .all
 |succ i=>simp at h1 e;rw[h1]at e;cases e;exact .same _
theorem Fin.nilsl{Q:D→Heap→Prop}{H:Heap}(sz:Nat)(ds:List D)(h:Fin Q (.tuple (.sl sz []::ds)) H):Fin Q (.tuple (.nilsl::ds)) H:=
 let ⟨H1,e,h1,h2⟩:=h;⟨H1,e,Shift.trans (fun w v hr hs=>⟨by
  obtain⟨vs,rfl,hl,g⟩:=hr.tuple_inv;refine .tuple _ _ (by simpa using hl) fun i d j=>?_;cases i with
  |zero=>simp at j;subst j;have:=g 0 _ rfl;generalize vs.getD 0 Go.undef=u at this;cases this;exact .sl0 _ _ _
  |succ i=>exact g (i+1) d (by simpa using j),hs,fun _ hn=>hn⟩) h1,h2⟩
theorem A9g{P:Program}{t:Nat}{k:IntKind}(h:P.underlying t=some (.int k)):C6 P t= .int:=by unfold C6;rw[h]
section
variable {P:Program} {Z:List (Nat×Rc)} {Q:AX→Env→Heap→Prop} {E:Env} {H:Heap} {K:Env→Heap→Prop} {gs:List (Option Nat)} {l:List Oper} {KD:D→Heap→Prop} {ev:Operand→D} {bl:List Nat}
@[go_sem] theorem C6c:wp P Z .skip Q E H=Q .normal E H:=rfl
def A4Z(P:Program)(gs:List (Option Nat))(ops:List Oper)(K:Env→Heap→Prop)(E:Env)(H:Heap):Option Rc→Prop
 |none=>wpOps P gs K ops E H
 |some (.rd sx)=>∃bl,(∀k∈bl,H k≠none)∧A7x P sx bl K ops E H
 |some .par=>∃(cs:Nat→CR) (bs:Nat→Bl),B3f bs 0 ops∧wpP P gs cs bs K 0 ops E H
 |some (.ord perm)=>∃bl:List Nat,wpG P bl K (perm.map (A1k ops)) E H
 |some .rg=>∃bl,(∀k∈bl,H k≠none)∧X5 P bl gs K ops E H
 |some .wk=>∃E0 H0,A1D E0 H0 E H∧wpOps P gs K ops E0 H0
@[go_sem] theorem C3y(id:Nat)(l:List Oper)(d:Bool):wp P Z (.region id l.toArray d) Q E H=A4Z P (l.map (·.dst)) l (B2N Q) E H (A0T id Z):=by
 show (match A0T id Z with|none=>_|some (.rd sx)=>_|some .par=>_|some (.ord perm)=>_|some .rg=>_|some .wk=>_)=_;unfold A4Z;cases A0T id Z with
 |none=>rfl
 |some r=>cases r<;>rfl
@[go_sem] theorem C1r(id:Nat):A0T id []=none:=rfl
@[go_sem] theorem C0j(id i:Nat)(sx:Rc)(Z:List (Nat×Rc)):A0T id ((i,sx)::Z)=if id=i then some sx else A0T id Z:=rfl
@[go_sem] theorem C1s(d:List (Option Nat))(ops:List Oper):A4Z P d ops K E H none=wpOps P d K ops E H:=rfl
theorem F5{d:List (Option Nat)}{ops:List Oper}(cs:Nat→D)(bl:List Nat)(h:wpP P d (fun i=>.c (cs i)) (fun _=>⟨bl,[],[]⟩) K 0 ops E H):A4Z P d ops K E H (some .par):=⟨_,_,A2i bl _ _,h⟩
theorem B2O{d:List (Option Nat)}{ops:List Oper}(cs:Nat→CR)(bl:List Nat)(h:wpP P d cs (fun _=>⟨bl,[],[]⟩) K 0 ops E H):A4Z P d ops K E H (some .par):=⟨cs,_,A2i bl _ _,h⟩
theorem C1t{d:List (Option Nat)}{ops:List Oper}{perm:List Nat}(bl:List Nat)(h:wpG P bl K (perm.map (A1k ops)) E H):A4Z P d ops K E H (some (.ord perm)):=⟨bl,h⟩
def gK(P:Program)(bl:List Nat)(K:Env→Heap→Prop)(l:List (Option Oper))(dst:Option Nat)(E:Env)(H:Heap):D→Heap→Prop:=fun d H'=>(∀k∈bl,H' k=H k)∧wpG P bl K l (E.put dst d) H'
@[go_sem] theorem C7V(bl:List Nat)(K:Env→Heap→Prop)(l:List (Option Oper))(dst:Option Nat)(E:Env)(H H':Heap)(d:D):gK P bl K l dst E H d H'=((∀k∈bl,H' k=H k)∧wpG P bl K l (E.put dst d) H'):=rfl
@[go_sem] theorem C8m(bl:List Nat):wpG P bl K [] E H=K E H:=rfl
@[go_sem] theorem C7W(bl:List Nat)(l:List (Option Oper))(dst:Option Nat)(t:Nat)(x:Operand)(ty:Nat)(pos:String)(after:Array Edge)(d:Option (Nat×Bool)):
  wpG P bl K (some ⟨dst,.load t x,ty,pos,after,d⟩::l) E H=((∀b∈rdB (E.ev x),b∈bl)∧C8 P E.ev H (gK P bl K l dst E H) (.load t x)):=by
 show ((I5 P (.load t x)= .load→_)∧_)=_;simp only[I5,true_implies,B46];rfl
def B2P:Op→Bool
 | .load .. =>false
 |_=>true
theorem B5C{op:Op}(h:I5 P op= .load):B2P op=false:=by
 cases op
 case load=>rfl
 case convert s t x=>simp only[I5]at h;split at h<;>cases h
 case call cc=>
  obtain⟨c,d,e⟩:=cc;cases c with
  |builtin b=>
   cases b<;>simp only[I5]at h<;>first|cases h|(split at h<;>cases h)
  |_=>simp[I5]at h
 all_goals (simp[I5]at h)
theorem C7X(bl:List Nat)(l:List (Option Oper))(dst:Option Nat)(op:Op)(ty:Nat)(pos:String)(after:Array Edge)(d:Option (Nat×Bool))(h:B2P op=true):
  wpG P bl K (some ⟨dst,op,ty,pos,after,d⟩::l) E H=C8 P E.ev H (gK P bl K l dst E H) op:=by
 have hc:I5 P op≠ .load:=fun g=>by rw[B5C g]at h;cases h
 show ((I5 P op= .load→_)∧_)=_;simp only[hc,false_implies,true_and];rfl
@[go_sem] theorem C6d(t:Nat)(a x:Operand)(bl:List Nat)(l:List (Option Oper))(dst:Option Nat)(ty:Nat)(pos:String)(after:Array Edge)(d:Option (Nat×Bool)):wpG P bl K (some ⟨dst,.store t a x,ty,pos,after,d⟩::l) E H=C8 P E.ev H (gK P bl K l dst E H) (.store t a x):=C7X _ _ _ _ _ _ _ _ rfl
@[go_sem] theorem C3z(o:Oper)(l:List Oper):A1k (o::l) 0=some o:=rfl
@[go_sem] theorem C30(o:Oper)(l:List Oper)(i:Nat):A1k (o::l) (i+1)=A1k l i:=rfl
@[go_sem] theorem C7Y(a b:Code):wp P Z (.seq a b) Q E H=wp P Z a (B8N P Z b Q) E H:=by
 show wp P Z a _ E H=wp P Z a _ E H
 congr 1;funext x;cases x<;>rfl
@[go_sem] theorem C6e(c:Operand)(x y:Code):wp P Z (.cond c x y) Q E H=A9f P Z c (E.ev c) x y Q E H:=rfl
@[go_sem] theorem C45(id:Nat)(c:Code):wp P Z (.block id c) Q E H=wp P Z c (A71 id Q) E H:=by
 show wp P Z c _ E H=wp P Z c _ E H
 congr 1;funext x;cases x<;>rfl
@[go_sem] theorem C6f(c:Code):wp P Z (.loop c) Q E H=B5A P Z c Q E H:=by
 show B2M _ E H=B2M _ E H
 congr 1;funext K;congr 1;funext x;cases x<;>rfl
@[go_sem] theorem C6g(id:Nat):wp P Z (.exit id) Q E H=Q (.exit id) E H:=rfl
@[go_sem] theorem C7Z:wp P Z .ret Q E H=Q .ret E H:=rfl
@[go_sem] theorem C46(c:Code):wp P Z (.scope c) Q E H=wp P Z c Q E H:=rfl
@[go_sem] theorem C47(l:Nat):wp P Z (.label l) Q E H=Q .normal E H:=rfl
@[go_sem] theorem C0k(b:Code):B8N P Z b Q .normal E H=wp P Z b Q E H:=rfl
@[go_sem] theorem C31(b:Code)(i:Nat):B8N P Z b Q (.exit i) E H=Q (.exit i) E H:=rfl
@[go_sem] theorem C48(b:Code):B8N P Z b Q .ret E H=Q .ret E H:=rfl
@[go_sem] theorem B7u(i:Nat):A71 i Q .normal E H=Q .normal E H:=rfl
@[go_sem] theorem C0l(i j:Nat):A71 i Q (.exit j) E H=if j=i then Q .normal E H else Q (.exit j) E H:=rfl
@[go_sem] theorem C1u(i:Nat):A71 i Q .ret E H=Q .ret E H:=rfl
@[go_sem] theorem B8P:A5i Q K .normal E H=K E H:=rfl
@[go_sem] theorem C1v(j:Nat):A5i Q K (.exit j) E H=Q (.exit j) E H:=rfl
@[go_sem] theorem C32:A5i Q K .ret E H=Q .ret E H:=rfl
@[go_sem] theorem C0m:B2N Q E H=Q .normal E H:=rfl
theorem A2l(c:Operand)(b:Bool)(x y:Code):A9f P Z c (.bool b) x y Q E H=((b=true→wp P Z x Q (E.fix c true) H)∧(b=false→wp P Z y Q (E.fix c false) H)):=by
 unfold A9f;simp only[D.bool.injEq,exists_eq_left']
attribute [go_sem low] A2l
@[go_sem high] theorem C1w(c:Operand)(x y:Code):A9f P Z c (.bool true) x y Q E H=wp P Z x Q (E.fix c true) H:=by rw[A2l];simp
@[go_sem high] theorem C0n(c:Operand)(x y:Code):A9f P Z c (.bool false) x y Q E H=wp P Z y Q (E.fix c false) H:=by rw[A2l];simp
@[go_sem] theorem C6h(t:Nat)(b:Bool):Env.fix E (.tmp t) b=(t,.bool b)::E:=rfl
@[go_sem] theorem C6i:wpOps P gs K [] E H=K E H:=rfl
@[go_sem] theorem C49(dst:Option Nat)(op:Op)(ty:Nat)(pos:String)(after:Array Edge):wpOps P gs K (⟨dst,op,ty,pos,after,none⟩::l) E H=C8 P (Env.ev E) H (opK P gs K l dst E) op:=rfl
@[go_sem] theorem C33(dst:Option Nat)(op:Op)(ty:Nat)(pos:String)(after:Array Edge)(j:Nat)(d:Bool):
  wpOps P gs K (⟨dst,op,ty,pos,after,some (j,d)⟩::l) E H=B1I P gs K l dst op (H6 gs j) d E H:=by
 rw[wpOps];simp only[];unfold A1h B1I;cases H6 gs j<;>rfl
@[go_sem] theorem B5D(g:Option Nat)(d:List (Option Nat)):H6 (g::d) 0=g:=rfl
@[go_sem] theorem B5E(g:Option Nat)(d:List (Option Nat))(j:Nat):H6 (g::d) (j+1)=H6 d j:=by simp[H6]
@[go_sem] theorem C0o(dst:Option Nat)(op:Op)(s:Nat)(d:Bool):B1I P gs K l dst op (some s) d E H=A0U P gs K l dst op s (E.get s) d E H:=rfl
theorem Y8(dst:Option Nat)(op:Op)(s:Nat)(b d:Bool):A0U P gs K l dst op s (.bool b) d E H=
  ((b=d→C8 P (Env.ev ((s,.bool d)::E)) H (opK P gs K l dst ((s,.bool d)::E)) op)∧(b= !d→wpOps P gs K l (Env.put ((s,.bool (!d))::E) dst (.tuple [])) H)):=by
 unfold A0U;simp only[D.bool.injEq,exists_eq_left',reduceCtorEq,false_and,false_or]
attribute [go_sem low] Y8
@[go_sem high] theorem C0p(dst:Option Nat)(op:Op)(s:Nat)(d:Bool):A0U P gs K l dst op s (.tuple []) d E H=wpOps P gs K l (E.put dst (.tuple [])) H:=by
 unfold A0U;simp
@[go_sem high] theorem C34(dst:Option Nat)(op:Op)(s:Nat):A0U P gs K l dst op s (.bool true) true E H=C8 P (Env.ev ((s,.bool true)::E)) H (opK P gs K l dst ((s,.bool true)::E)) op:=by rw[Y8];simp
@[go_sem high] theorem C35(dst:Option Nat)(op:Op)(s:Nat):A0U P gs K l dst op s (.bool false) false E H=C8 P (Env.ev ((s,.bool false)::E)) H (opK P gs K l dst ((s,.bool false)::E)) op:=by rw[Y8];simp
@[go_sem high] theorem C36(dst:Option Nat)(op:Op)(s:Nat):A0U P gs K l dst op s (.bool true) false E H=wpOps P gs K l (Env.put ((s,.bool true)::E) dst (.tuple [])) H:=by rw[Y8];simp
@[go_sem high] theorem C37(dst:Option Nat)(op:Op)(s:Nat):A0U P gs K l dst op s (.bool false) true E H=wpOps P gs K l (Env.put ((s,.bool false)::E) dst (.tuple [])) H:=by rw[Y8];simp
@[go_sem] theorem C6j(dst:Option Nat)(d:D):opK P gs K l dst E d H=wpOps P gs K l (Env.put E dst d) H:=rfl
def C5A(P:Program)(bl:List Nat)(gs:List (Option Nat))(K:Env→Heap→Prop)(l:List Oper)(dst:Option Nat)(E:Env):D→Heap→Prop:=fun d H=>X5 P bl gs K l (E.put dst d) H
def B5F(P:Program)(bl:List Nat)(gs:List (Option Nat))(K:Env→Heap→Prop)(l:List Oper)(dst:Option Nat)(op:Op)(s:Nat)(d:D)(want:Bool)(E:Env)(H:Heap):Prop:=
 (d= .tuple []∧X5 P bl gs K l (E.put dst (.tuple [])) H)∨
 ∃b,d= .bool b∧(b=want→A5S P bl (Env.ev ((s,.bool want)::E)) H (C5A P bl gs K l dst ((s,.bool want)::E)) op)∧(b= !want→X5 P bl gs K l (Env.put ((s,.bool (!want))::E) dst (.tuple [])) H)
theorem A9h(dst:Option Nat)(op:Op)(s:Nat)(b d:Bool):B5F P bl gs K l dst op s (.bool b) d E H=
  ((b=d→A5S P bl (Env.ev ((s,.bool d)::E)) H (C5A P bl gs K l dst ((s,.bool d)::E)) op)∧(b= !d→X5 P bl gs K l (Env.put ((s,.bool (!d))::E) dst (.tuple [])) H)):=by
 unfold B5F;apply propext;constructor
 ·rintro(⟨h,_⟩|⟨e,h,h1⟩)
  ·cases h
  ·cases h;exact h1
 ·exact fun h=>.inr ⟨b,rfl,h⟩
attribute [go_sem low] A9h
def roH(H:Heap):Heap:=fun k=>match H k with
 |some (.ro cs)=>some (.ro cs)
 |_=>none
theorem A72{H:Heap}{k:Nat}{cs:List D}(h:H k=some (.ro cs)):roH H k=some (.ro cs):=by unfold roH;rw[h]
theorem A73(H:Heap):(roH H).Le H:=fun k o h=>by
 unfold roH at h;split at h
 ·rename_i cs e;cases h;exact e
 ·cases h
theorem A3G(H:Heap)(k:Nat):(roH H).held k=false:=by
 cases h:roH H k with
 |none=>exact G9 h
 |some o=>
  have d:=h;unfold roH at d;split at d
  ·cases d;rw[I6 h];rfl
  ·cases d
theorem C1x(H:Heap):H.sub (roH H)=H:=by
 funext k;unfold Heap.sub;rw[A3G];simp
def C7a(H:Heap)(b:Nat):Heap:=fun k=>if k=b then H k else roH H k
theorem B8Q(H:Heap)(b:Nat):C7a H b b=H b:=if_pos rfl
@[go_sem] theorem A33(d:D):Q8 (some d) KD H=KD d H:=by simp[Q8]
@[go_sem] theorem C5B(c:Prop) [Decidable c] (a:Option D):Q8 (if c then a else none) KD H=(c∧Q8 a KD H):=by
 by_cases h:c<;>simp[h,Q8]
@[go_sem] theorem C38(H':Heap):A9e (some H') KD=KD .undef H':=by simp[A9e]
@[go_sem] theorem C5C(c:Prop) [Decidable c] (a:Option Heap):A9e (if c then a else none) KD=(c∧A9e a KD):=by
 by_cases h:c<;>simp[h,A9e]
def tt:D→Heap→Prop:=fun _ _=>True
variable {sx:Bool} {bl:List Nat}
@[go_sem] theorem C6k(i j:Nat)(d:D)(E:Env):Env.get ((i,d)::E) j=if i=j then d else Env.get E j:=rfl
@[go_sem] theorem C6l(i:Nat)(d:D):Env.put E (some i) d=(i,d)::E:=rfl
@[go_sem] theorem B8R(d:D):Env.put E none d=E:=rfl
@[go_sem] theorem C7b(t:Nat):Env.ev E (.tmp t)=Env.get E t:=rfl
@[go_sem] theorem C7c(k:IntKind)(n:Int):Env.ev E (.const (.int k n))= .int k n:=rfl
@[go_sem] theorem C6m(b:Bool):Env.ev E (.const (.bool b))= .bool b:=rfl
@[go_sem] theorem C7d(s:ByteArray):Env.ev E (.const (.string s))= .str s:=rfl
@[go_sem] theorem C5D:Env.ev E (.const (.slice none 0 0))= .nilsl:=rfl
@[go_sem] theorem C39:Env.ev E (.const (.map none))= .nilmap:=rfl
@[go_sem] theorem C5E:Env.ev E (.const .nilIface)= .nilif:=rfl
@[go_sem] theorem C6n(f:Nat):Env.ev E (.func f)= .fn (.func f) [] []:=rfl
@[go_sem] theorem C7e(x:Operand):C8 P ev H KD (.move x)=KD (ev x) H:=A33 _
@[go_sem] theorem C5F(x:Operand):C8 P ev H KD (.assign x)=KD (ev x) H:=A33 _
def B2Q:D→D→D→Option D
 | .bool t,a,b=>some (if t then a else b)
 |_,_,_=>none
@[go_sem high] theorem C4A(a b:D):B2Q (.bool true) a b=some a:=rfl
@[go_sem high] theorem C1y(a b:D):B2Q (.bool false) a b=some b:=rfl
@[go_sem] theorem C7f(c a b:Operand):C8 P ev H KD (.pick c a b)=Q8 (B2Q (ev c) (ev a) (ev b)) KD H:=by
 show Q8 _ KD H=_;simp only[K2,B2Q]
 congr 1
 cases ev c<;>rfl
def A74:D→Option D
 | .box b off=>some (.box b off)
 | .el b sz i off=>some (.el b sz i off)
 | .ro cs=>some (.ro cs)
 | .fn (.func f) a b=>some (.fn (.func f) a b)
 |_=>none
@[go_sem] theorem C4B(b off:Nat):A74 (.box b off)=some (.box b off):=rfl
@[go_sem] theorem C5G(b sz i off:Nat):A74 (.el b sz i off)=some (.el b sz i off):=rfl
@[go_sem] theorem C6o(x:Operand):C8 P ev H KD (.nilCheck x)=Q8 (A74 (ev x)) KD H:=by
 show Q8 _ KD H=_;simp only[K2,A74];generalize ev x=d;cases d<;>rfl
@[go_sem] theorem C8n(op:BinOp)(t:Nat)(x y:Operand)(d:Nat):C8 P ev H KD (.binOp op t x y d)=Q8 (A1b P op t (J9 x||J9 y) (ev x) (ev y)) KD H:=rfl
@[go_sem] theorem C9Y(op:UnOp)(t:Nat)(x:Operand):C8 P ev H KD (.unOp op t x)=Q8 (unD op (ev x)) KD H:=rfl
@[go_sem] theorem C6p(t:Nat)(x:Operand)(f:Nat):C8 P ev H KD (.fieldAddr t x f)=Q8 (X1 P t (ev x) f) KD H:=rfl
@[go_sem] theorem C6q(t:Nat)(x i:Operand):C8 P ev H KD (.indexAddr t x i)=Q8 (P4 P t (ev x) (ev i)) KD H:=rfl
@[go_sem] theorem C6r(t:Nat)(x i:Operand):C8 P ev H KD (.index t x i)=Q8 (A5N P t (ev x) (ev i)) KD H:=rfl
@[go_sem] theorem C6s(t:Nat)(x:Operand)(lo d:Option Operand):C8 P ev H KD (.slice t x lo d none)=Q8 (S5 P t (ev x) (lo.map ev) (d.map ev)) KD H:=rfl
def A5j:D→Nat→Option D
 | .tuple ds,i=>ds[i]?
 |_,_=>none
@[go_sem] theorem B7v(ds:List D)(i:Nat):A5j (.tuple ds) i=ds[i]? :=rfl
@[go_sem] theorem C4C(x:Operand)(i:Nat):C8 P ev H KD (.extract x i)=Q8 (A5j (ev x) i) KD H:=by
 show Q8 _ KD H=_;simp only[K2,A5j]
 congr 1
 cases ev x<;>rfl
@[go_sem] theorem C7g(t:Nat)(x:Operand):C8 P ev H KD (.load t x)=Q8 (q9 P t (ev x) H) KD H:=rfl
@[go_sem] theorem C6t(t:Nat)(a x:Operand):C8 P ev H KD (.store t a x)=A9e (X3 P t (ev a) (ev x) H) KD:=rfl
def B1J(z:Option (List D))(Z:Option TypeId)(H:Heap)(KD:D→Heap→Prop):Prop:=∃c,z=some c∧∀b,H b=none→KD (.box b 0) (H.set b (.box c Z))
@[go_sem] theorem C6u(t:Nat):C8 P ev H KD (.alloc t)=B1J (G1 P t) (A1X P t) H KD:=rfl
@[go_sem] theorem C0q(c:List D)(Z:Option TypeId):B1J (some c) Z H KD= ∀b,H b=none→KD (.box b 0) (H.set b (.box c Z)):=by simp[B1J]
@[go_sem] theorem C8o(t:Nat)(x:Operand):C8 P ev H KD (.box t x)=((ev x).cells.all D.one=true∧∀b,H b=none→KD (.box b 0) (H.set b (.box (ev x).cells))):=rfl
@[go_sem] theorem C7h(f:Operand)(args:List Operand)(d:Array Nat):C8 P ev H KD (.call ⟨.value f,args.toArray,d⟩)=B5B P (ev f) (args.map ev) H KD:=by
 show (match ev f with| .fn (.func g) first captured=>ACalls P g (first++args.toArray.toList.map ev++captured) H KD|_=>False)=_;unfold B5B;rfl
@[go_sem] theorem C5H(g:Nat)(fs d cs:List D):B5B P (.fn (.func g) fs cs) d H KD=ACalls P g (fs++d++cs) H KD:=rfl
def C5I:Option Obj→Option (List (D×D))
 |some (.map kvs)=>some kvs
 |_=>none
@[go_sem] theorem C5J(kvs:List (D×D)):C5I (some (.map kvs))=some kvs:=rfl
@[go_sem] theorem C6v(b:Nat):W6 H (.map b)=C5I (H b):=by
 simp only[W6];generalize H b=o;cases o with
 |none=>rfl
 |some o=>cases o<;>rfl
@[go_sem] theorem C7i(kvs:List (D×D)):W6 H (.fm kvs)=some kvs:=rfl
def B5G(o:Option (List (D×D)))(KD:List (D×D)→Prop):Prop:=∃kvs,o=some kvs∧KD kvs
@[go_sem] theorem C4D(kvs:List (D×D))(K:List (D×D)→Prop):B5G (some kvs) K=K kvs:=by simp[B5G]
def B5H(bs:Q0)(P:Program)(t:Nat)(d:D)(H:Heap)(KD:D→Heap→Prop):Prop:=match bs with
 | .map=>B5G (W6 H d) fun kvs=>KD (.int .i64 kvs.length) H
 |_=>Q8 (A5M P t d) KD H
@[go_sem] theorem C5K(t:Nat)(d:D):B5H .map P t d H KD=B5G (W6 H d) fun kvs=>KD (.int .i64 kvs.length) H:=rfl
@[go_sem] theorem C1z(t:Nat)(d:D):B5H .slice P t d H KD=Q8 (A5M P t d) KD H:=rfl
@[go_sem] theorem C5L(t:Nat)(d:D):B5H .str P t d H KD=Q8 (A5M P t d) KD H:=rfl
@[go_sem] theorem C8p(x:Operand)(t:Nat):C8 P ev H KD (.call ⟨.builtin .len,#[x],#[t]⟩)=B5H (C6 P t) P t (ev x) H KD:=by
 unfold B5H C6;cases d:P.underlying t with
 |none=>simp[C8,I5,d,Q8,K2]
 |some u=>cases u<;>simp[C8,I5,d,Q8,B5G,K2]
def B8S(bs:Q0)(d:D):Option D:=match d with
 | .nilsl=>if bs= .slice then some (.int .i64 0)else none
 |_=>none
@[go_sem] theorem C5M:B8S .slice .nilsl=some (.int .i64 0):=rfl
def B2R(z:Option D)(kvs:Option (List (D×D)))(kk:KK)(k:D)(ok:Bool):Option D:=match z,kvs with
 |some z,some kvs=>(O8 kk k kvs 0).map (A2f ok z)
 |_,_=>none
@[go_sem] theorem C10(z k:D)(kvs:List (D×D))(d:KK)(ok:Bool):B2R (some z) (some kvs) d k ok=(O8 d k kvs 0).map (A2f ok z):=rfl
def B5I(T:Option (TypeId×TypeId×KK))(P:Program)(m k:D)(ok:Bool)(H:Heap):Option D:=match T with
 |some (_,et,kk)=>if R1 kk k=true then B2R (A5Q P et) (W6 H m) kk k ok else none
 |none=>none
@[go_sem] theorem C11(g e:TypeId)(d:KK)(m k:D)(ok:Bool):B5I (some (g,e,d)) P m k ok H=if R1 d k=true then B2R (A5Q P e) (W6 H m) d k ok else none:=rfl
@[go_sem] theorem C5N(t:Nat)(m k:Operand)(ok:Bool):C8 P ev H KD (.lookup t m k ok)=Q8 (B5I (A25 P t) P (ev m) (ev k) ok H) KD H:=by
 show Q8 (A06 P t (ev m) (ev k) ok H) KD H=_;unfold A06 B5I B2R;cases A25 P t with
 |none=>rfl
 |some T=>
  obtain⟨e,d,g⟩:=T;simp only[D0J];cases A5Q P d<;>cases W6 H (ev m)<;>simp
@[go_sem] theorem C5O(z d:D)(i:Nat):A2f true z (some (i,d))= .tuple [d,.bool true]:=rfl
@[go_sem] theorem C5P(z:D):A2f true z none= .tuple [z,.bool false]:=rfl
@[go_sem] theorem C4E(b:Q0)(s:ByteArray):R1 (.one b) (.str s)=true:=rfl
def B2S(o:Option Obj)(b:Nat)(kk:KK)(k x:D)(H:Heap):Option Heap:=match o with
 |some (.map kvs)=>(O8 kk k kvs 0).map fun r=>H.set b (.map (A5R kvs k x r))
 |_=>none
@[go_sem] theorem C4F(kvs:List (D×D))(b:Nat)(d:KK)(k x:D):B2S (some (.map kvs)) b d k x H=(O8 d k kvs 0).map fun r=>H.set b (.map (A5R kvs k x r)):=rfl
def B5J(T:Option (TypeId×TypeId×KK))(m k x:D)(H:Heap):Option Heap:=match T,m with
 |some (_,_,kk),.map b=>if R1 kk k=true then B2S (H b) b kk k x H else none
 |_,_=>none
@[go_sem] theorem C12(e g:TypeId)(d:KK)(b:Nat)(k x:D):B5J (some (e,g,d)) (.map b) k x H=if R1 d k=true then B2S (H b) b d k x H else none:=rfl
@[go_sem] theorem C0r(t:Nat)(m k x:Operand):C8 P ev H KD (.mapUpdate t m k x)=A9e (B5J (A25 P t) (ev m) (ev k) (ev x) H) KD:=by
 show A9e (A26 P t (ev m) (ev k) (ev x) H) KD=_;unfold A26 B5J B2S;cases A25 P t with
 |none=>rfl
 |some T=>
  obtain⟨d,e,g⟩:=T;simp only[D0J];cases ev m<;>try(simp;done)
  rename_i b;simp only;cases H b with
  |none=>simp
  |some o=>cases o<;>simp
@[go_sem] theorem C4G(t:Nat):C8 P ev H KD (.makeMap t none)= ∀b,H b=none→KD (.map b) (H.set b (.map [])):=rfl
@[go_sem] theorem C8q(x:Operand)(t:Nat):C8 P ev H KD (.call ⟨.builtin .cap,#[x],#[t]⟩)=Q8 (B8S (C6 P t) (ev x)) KD H:=by
 have e:K2 P ev (.call ⟨.builtin .cap,#[x],#[t]⟩)=B8S (C6 P t) (ev x):=by
  simp only[K2,List.getElem?_toArray,List.getElem?_cons_zero,Option.map_some];unfold B8S;cases ev x<;>rfl
 show (∃d,K2 P ev (.call ⟨.builtin .cap,#[x],#[t]⟩)=some d∧KD d H)=_;rw[e];rfl
@[go_sem] theorem C8r(x y:Operand)(d:Array Nat):C8 P ev H KD (.call ⟨.builtin .max,#[x,y],d⟩)=Q8 (A6o (ev x) (ev y)) KD H:=by
 show Q8 (A6p A6o [ev x,ev y]) KD H=_;simp[A6p]
@[go_sem] theorem C5Q(s x:Operand)(t d:Nat):C8 P ev H KD (.call ⟨.builtin .append,#[s,x],#[t,d]⟩)=A05 P ev H KD t d s x:=rfl
def C13(P:Program)(t:Nat)(d:D):Option D:=if C6 P t= .iface∨(P.underlying t).isNone then none else some (.iface t d)
@[go_sem] theorem C4H(t:Nat)(x:Operand):C8 P ev H KD (.makeInterface t x)=Q8 (C13 P t (ev x)) KD H:=rfl
@[go_sem] theorem C7j(fn:Fn)(fs cs:List Operand):C8 P ev H KD (.makeFunc fn fs.toArray cs.toArray)=KD (.fn fn (fs.map ev) (cs.map ev)) H:=by
 show Q8 _ KD H=_;simp[K2,A33]
def A75(P:Program)(t:Nat)(ps:List (Nat×D)):Option D:=match C6 P t with
  | .struct=>(G1 P t).bind fun z=>(K8 P t).bind fun fs=>(i6 (fun i=>(fs[i]?).map fun f=>(f.1,f.2.2)) z ps).map .agg
  | .other=>(G1 P t).bind fun z=>(B00 P t).bind fun s=>(i6 (fun i=>some (i*s.2,s.2)) z ps).map .agg
  |_=>none
def B5K(z:Option (List D))(s:Option (Nat×Nat))(ps:List (Nat×D)):Option D:=match z,s with
 |some z,some s=>(i6 (fun i=>some (i*s.2,s.2)) z ps).map .agg
 |_,_=>none
def B1K(b:Q0)(z:Option (List D))(fs:Option (List (Nat×Bool×Nat)))(s:Option (Nat×Nat))(ps:List (Nat×D)):Option D:=match b with
 | .struct=>match z,fs with
  |some z,some fs=>(i6 (fun i=>(fs[i]?).map fun f=>(f.1,f.2.2)) z ps).map .agg
  |_,_=>none
 | .other=>B5K z s ps
 |_=>none
@[go_sem] theorem C4I(t:Nat)(ps:List (Nat×D)):A75 P t ps=B1K (C6 P t) (G1 P t) (K8 P t) (B00 P t) ps:=by
 unfold A75 B1K B5K;cases C6 P t<;>try rfl
 ·cases G1 P t<;>try rfl
  cases K8 P t<;>rfl
 ·cases G1 P t<;>try rfl
  cases B00 P t<;>rfl
@[go_sem] theorem C0s(z:List D)(fs:List (Nat×Bool×Nat))(s:Option (Nat×Nat))(ps:List (Nat×D)):B1K .struct (some z) (some fs) s ps=(i6 (fun i=>(fs[i]?).map fun f=>(f.1,f.2.2)) z ps).map .agg:=rfl
@[go_sem] theorem C5R(d:Nat→Option (Nat×Nat))(cs:List D):i6 d cs []=some cs:=rfl
def B5L(o:Option (Nat×Nat))(pl:Nat→Option (Nat×Nat))(cs:List D)(d:D)(ps:List (Nat×D)):Option (List D):=match o with
 |none=>none
 |some (off,size)=>if d.cells.length=size∧off+size≤cs.length∧d.cells.all D.one=true then i6 pl (O7 cs off d.cells) ps else none
@[go_sem] theorem C4J(e:Nat→Option (Nat×Nat))(cs:List D)(i:Nat)(d:D)(ps:List (Nat×D)):i6 e cs ((i,d)::ps)=B5L (e i) e cs d ps:=by
 rw[i6];unfold B5L;cases e i<;>rfl
@[go_sem] theorem C14(off size:Nat)(e:Nat→Option (Nat×Nat))(cs:List D)(d:D)(ps:List (Nat×D)):B5L (some (off,size)) e cs d ps=if d.cells.length=size∧off+size≤cs.length∧d.cells.all D.one=true then i6 e (O7 cs off d.cells) ps else none:=rfl
@[go_sem] theorem C6w(t:Nat)(ps:List (Nat×Operand)):C8 P ev H KD (.build t ps.toArray)=Q8 (A75 P t (ps.map fun p=>(p.1,ev p.2))) KD H:=by
 show Q8 _ KD H=_;simp only[K2,A75];cases C6 P t<;>rfl
variable {t:Nat} {c:Bool} {k:IntKind} {a b:Int}
@[go_sem] theorem C8s:K1 P .add t c (.int k a) (.int k b)=some (.int k (k.wrap (a+b))):=by simp[K1,A23]
@[go_sem] theorem C8t:K1 P .sub t c (.int k a) (.int k b)=some (.int k (k.wrap (a-b))):=by simp[K1,A23]
@[go_sem] theorem C8u:K1 P .mul t c (.int k a) (.int k b)=some (.int k (k.wrap (a*b))):=by simp[K1,A23]
@[go_sem] theorem C8v:K1 P .quo t c (.int k a) (.int k b)=if b=0 then none else some (.int k (k.wrap (a.tdiv b))):=by simp[K1,A23]
@[go_sem] theorem C8w:K1 P .rem t c (.int k a) (.int k b)=if b=0 then none else some (.int k (a.tmod b)):=by simp[K1,A23]
@[go_sem] theorem C8x:K1 P .eql t c (.int k a) (.int k b)=some (.bool (decide (a=b))):=by simp[K1,A23];rfl
@[go_sem] theorem C8y:K1 P .neq t c (.int k a) (.int k b)=some (.bool (!decide (a=b))):=by simp[K1,A23];rfl
@[go_sem] theorem C8z:K1 P .lss t c (.int k a) (.int k b)=some (.bool (decide (a<b))):=by simp[K1,A23]
@[go_sem] theorem C80:K1 P .leq t c (.int k a) (.int k b)=some (.bool (decide (a≤b))):=by simp[K1,A23]
@[go_sem] theorem C81:K1 P .gtr t c (.int k a) (.int k b)=some (.bool (decide (b<a))):=by simp[K1,A23]
@[go_sem] theorem C82:K1 P .geq t c (.int k a) (.int k b)=some (.bool (decide (b≤a))):=by simp[K1,A23]
@[go_sem] theorem C7k(x y:ByteArray):K1 P .add t c (.str x) (.str y)=if x.size+y.size≤9223372036854775807 then some (.str (x++y))else none:=rfl
@[go_sem] theorem C7l(x y:ByteArray):K1 P .eql t c (.str x) (.str y)=some (.bool (decide (B x=B y))):=by
 show some (D.bool (x.data.toList==y.data.toList))=_;unfold B;generalize x.data.toList=a;generalize y.data.toList=b;by_cases h:a=b<;>simp[h]
@[go_sem] theorem C7m(x y:ByteArray):K1 P .neq t c (.str x) (.str y)=some (.bool (!decide (B x=B y))):=by
 show some (D.bool (!(x.data.toList==y.data.toList)))=_;unfold B;generalize x.data.toList=a;generalize y.data.toList=b;by_cases h:a=b<;>simp[h]
@[go_sem] theorem C7n(x y:ByteArray):K1 P .lss t c (.str x) (.str y)=some (.bool (Op.bytesLess x.data.toList y.data.toList)):=rfl
@[go_sem] theorem C7o(x y:Bool):K1 P .eql t c (.bool x) (.bool y)=if C6 P t= .bool then some (.bool (x==y))else none:=rfl
@[go_sem] theorem C7p(x y:Bool):K1 P .neq t c (.bool x) (.bool y)=if C6 P t= .bool then some (.bool (!(x==y)))else none:=rfl
@[go_sem] theorem C7q(x:Bool):unD .not (.bool x)=some (.bool (!x)):=rfl
@[go_sem] theorem C7r:unD .neg (.int k a)=some (.int k (k.wrap (0-a))):=rfl
@[go_sem] theorem C5S(d:IntKind):B2C (.int k a) (.int d b)=some (.int k (if b<a then b else a)):=rfl
@[go_sem] theorem C5T(d:IntKind):A6o (.int k a) (.int d b)=some (.int k (if a<b then b else a)):=rfl
@[go_sem] theorem C7s(op:BinOp)(y:D):A1b P op t c (.int k a) y=K1 P op t c (.int k a) y:=by cases op<;>rfl
@[go_sem] theorem C7t(op:BinOp)(x:ByteArray)(y:D):A1b P op t c (.str x) y=K1 P op t c (.str x) y:=by cases op<;>rfl
@[go_sem] theorem C6x(op:BinOp)(x:Bool)(y:D):A1b P op t c (.bool x) y=K1 P op t c (.bool x) y:=by cases op<;>rfl
@[go_sem] theorem C5U(op:BinOp)(y:D):A1b P op t c .nilif y=K1 P op t c .nilif y:=by cases op<;>rfl
@[go_sem] theorem C83(op:BinOp)(n:Nat)(es:List (List D))(y:D):A1b P op t c (.sl n es) y=K1 P op t c (.sl n es) y:=by cases op<;>rfl
@[go_sem] theorem C5V(op:BinOp)(u:Nat)(d y:D):A1b P op t c (.iface u d) y=K1 P op t c (.iface u d) y:=by cases op<;>rfl
def C15(l:Option (List (Nat×Q0)))(xs ys:List D):Option Bool:=l.bind fun fs=>T9 fs xs ys
theorem A5k{sz:Nat}{es:List (List D)}(he:es≠[])(hb:C6 P t= .slice):K1 P .eql t true (.sl sz es) .nilsl=some (.bool false):=by
 cases es with
 |nil=>exact absurd rfl he
 |cons e es=>simp[K1,A5L,A87,hb]
@[go_sem] theorem C16(xs d:List D):A1b P .neq t c (.agg xs) (.agg d)=(C15 (A03 P t) xs d).map fun b=>.bool (!b):=by
 show (A03 P t).bind _=_;unfold C15;cases A03 P t<;>rfl
@[go_sem] theorem C4K(fs:List (Nat×Q0))(xs d:List D):C15 (some fs) xs d=T9 fs xs d:=rfl
@[go_sem] theorem C4L(xs d:List D):T9 [] xs d=some true:=rfl
def B5M(x y:Option D)(bs:Q0)(r:Option Bool):Option Bool:=match x,y with
 |some x,some y=>(T8 bs x y).bind fun c=>r.map (c&& ·)
 |_,_=>none
@[go_sem] theorem C17(o:Nat)(bs:Q0)(fs:List (Nat×Q0))(xs d:List D):T9 ((o,bs)::fs) xs d=B5M xs[o]? d[o]? bs (T9 fs xs d):=rfl
@[go_sem] theorem C5W(k:IntKind)(a b:Int)(r:Option Bool):B5M (some (.int k a)) (some (.int k b)) .int r=r.map (decide (a=b)&& ·):=by
 simp[B5M,T8];rfl
@[go_sem] theorem C5X(a b:ByteArray)(r:Option Bool):B5M (some (.str a)) (some (.str b)) .str r=r.map (decide (B a=B b)&& ·):=by
 have:(a.data.toList==b.data.toList)=decide (B a=B b):=by
  unfold B;generalize a.data.toList=x;generalize b.data.toList=y;by_cases h:x=y<;>simp[h]
 simp only[B5M,T8,this,D0J]
def elB(o:Option Obj)(sz lo n:Nat):Option (List (List D)):=match o with
 |some (.vec sz' es)=>if sz=sz'∧lo+n≤es.length then some ((es.drop lo).take n)else none
 |_=>none
@[go_sem] theorem C6y(sz' sz lo n:Nat)(es:List (List D)):elB (some (.vec sz' es)) sz lo n=if sz=sz'∧lo+n≤es.length then some ((es.drop lo).take n)else none:=rfl
@[go_sem] theorem C5Y(sz sz':Nat)(es:List (List D)):M3 H sz (.sl sz' es)=if sz=sz' then some es else none:=rfl
@[go_sem] theorem C4M(sz b sz' lo n:Nat):M3 H sz (.vec b sz' lo n)=if sz=sz' then elB (H b) sz lo n else none:=by
 simp only[M3];generalize H b=o;cases o with
 |none=>rfl
 |some o=>cases o<;>rfl
@[go_sem] theorem C5Z(es:List (List D)):A3q es []=some es:=rfl
@[go_sem] theorem C4N(es:List (List D))(i:Nat)(d:D)(ps:List (Nat×D)):A3q es ((i,d)::ps)=if i<es.length∧d.cells.length=(es.getD i []).length∧d.cells.all D.one=true then A3q (es.set i d.cells) ps else none:=rfl
def bsC(o:Option (List (List D)))(sz len:Nat)(H:Heap)(KD:D→Heap→Prop):Prop:=match o with
 |some es=>∀b,H b=none→KD (.vec b sz 0 len) (H.set b (.vec sz es))
 |none=>False
@[go_sem] theorem C5a(es:List (List D))(sz len:Nat):bsC (some es) sz len H KD= ∀b,H b=none→KD (.vec b sz 0 len) (H.set b (.vec sz es)):=rfl
def bsB(z:Option (List D))(sz len:Nat)(ps:List (Nat×D))(H:Heap)(KD:D→Heap→Prop):Prop:=match z with
 |some z=>z.length=sz∧bsC (A3q (List.replicate len z) ps) sz len H KD
 |none=>False
@[go_sem] theorem C5b(z:List D)(sz len:Nat)(ps:List (Nat×D)):bsB (some z) sz len ps H KD=(z.length=sz∧bsC (A3q (List.replicate len z) ps) sz len H KD):=rfl
def bsA(P:Program)(et:Option (Nat×Nat×Nat))(len:Nat)(ps:List (Nat×D))(H:Heap)(KD:D→Heap→Prop):Prop:=match et with
 |some (e,sz,_)=>0<sz∧len*sz≤16777216∧bsB (G1 P e) sz len ps H KD
 |none=>False
@[go_sem] theorem C5c(e sz d len:Nat)(ps:List (Nat×D)):bsA P (some (e,sz,d)) len ps H KD=(0<sz∧len*sz≤16777216∧bsB (G1 P e) sz len ps H KD):=rfl
@[go_sem] theorem B8T(t len:Nat)(ps:List (Nat×Operand)):C8 P ev H KD (.buildSlice t len ps.toArray)=bsA P (G3 P t) len (ps.map fun p=>(p.1,ev p.2)) H KD:=by
 show (∃e sz d z es,G3 P t=some (e,sz,d)∧0<sz∧len*sz≤16777216∧G1 P e=some z∧z.length=sz∧A3q (List.replicate len z) (ps.map fun p=>(p.1,ev p.2))=some es∧_)=_;apply propext;constructor
 ·rintro⟨e,sz,d,z,es,h1,g,i,m,h5,o,q⟩;rw[h1];refine⟨g,i,?_⟩;rw[m];refine⟨h5,?_⟩;rw[o];exact q
 ·intro h;cases he:G3 P t with
  |none=>rw[he]at h;exact h.elim
  |some e=>
   obtain⟨e,sz,d⟩:=e;rw[he]at h;obtain⟨g,i,h⟩:=h;cases j:G1 P e with
   |none=>rw[j]at h;exact h.elim
   |some z=>
    rw[j]at h;obtain⟨h5,h⟩:=h;cases hs:A3q (List.replicate len z) (ps.map fun p=>(p.1,ev p.2))with
    |none=>rw[hs]at h;exact h.elim
    |some es=>rw[hs]at h;exact⟨e,sz,d,z,es,rfl,g,i,j,h5,hs,h⟩
def apV(o:Option Obj)(b sz n by_:Nat)(xs:List (List D))(H:Heap)(KD:D→Heap→Prop):Prop:=match o with
 |some (.vec sz' es)=>sz=sz'∧n≤es.length∧(n+xs.length)*by_≤140737488355328∧n+xs.length≤9223372036854775807∧∀b',H.del b b'=none→KD (.vec b' sz 0 (n+xs.length)) ((H.del b).set b' (.vec sz (es.take n++xs)))
 |_=>False
@[go_sem] theorem C6z(b sz sz' n d:Nat)(es xs:List (List D)):apV (some (.vec sz' es)) b sz n d xs H KD=(sz=sz'∧n≤es.length∧(n+xs.length)*d≤140737488355328∧n+xs.length≤9223372036854775807∧∀e,H.del b e=none→KD (.vec e sz 0 (n+xs.length)) ((H.del b).set e (.vec sz (es.take n++xs)))):=rfl
def apW(o:Option Obj)(b sz lo n by_:Nat)(xs:List (List D))(H:Heap)(KD:D→Heap→Prop):Prop:=match o with
 |some (.vec sz' es)=>sz=sz'∧lo+n≤es.length∧(n+xs.length)*by_≤140737488355328∧n+xs.length≤9223372036854775807∧∀b' pre,H.del b b'=none→KD (.vec b' sz pre.length (n+xs.length)) ((H.del b).set b' (.vec sz (pre++((es.drop lo).take n++xs))))
 |_=>False
def apL(lo:Nat)(o:Option Obj)(b sz n by_:Nat)(xs:List (List D))(H:Heap)(KD:D→Heap→Prop):Prop:=(lo=0∧apV o b sz n by_ xs H KD)∨apW o b sz lo n by_ xs H KD
@[go_sem] theorem C87(o:Option Obj)(b sz n d:Nat)(xs:List (List D)):apL 0 o b sz n d xs H KD=apV o b sz n d xs H KD:=by
 refine propext ⟨fun h=>?_,fun h=>.inl ⟨rfl,h⟩⟩;rcases h with h|h
 ·exact h.2
 ·unfold apW at h;split at h
  ·obtain⟨h1,m,g,i,h5⟩:=h;exact⟨h1,by omega,g,i,fun j e=>by simpa using h5 j [] e⟩
  ·exact h.elim
def apS(s:D)(sz by_:Nat)(xs:List (List D))(H:Heap)(KD:D→Heap→Prop):Prop:=match s with
 | .nilsl=>xs.length*by_≤140737488355328∧xs.length≤9223372036854775807∧(xs= []→KD .nilsl H)∧(xs≠[]→∀b,H b=none→KD (.vec b sz 0 xs.length) (H.set b (.vec sz xs)))
 | .vec b sz' lo n=>sz'=sz∧apL lo (H b) b sz n by_ xs H KD
 |_=>False
@[go_sem] theorem C60(sz d:Nat)(xs:List (List D)):apS .nilsl sz d xs H KD=(xs.length*d≤140737488355328∧xs.length≤9223372036854775807∧(xs= []→KD .nilsl H)∧(xs≠[]→∀b,H b=none→KD (.vec b sz 0 xs.length) (H.set b (.vec sz xs)))):=rfl
@[go_sem] theorem C61(b sz sz' lo n d:Nat)(xs:List (List D)):apS (.vec b sz' lo n) sz d xs H KD=(sz'=sz∧apL lo (H b) b sz n d xs H KD):=rfl
def apX(o:Option (List (List D)))(s:D)(sz by_:Nat)(H:Heap)(KD:D→Heap→Prop):Prop:=match o with
 |some xs=>apS s sz by_ xs H KD
 |none=>False
@[go_sem] theorem C5d(xs:List (List D))(s:D)(sz d:Nat):apX (some xs) s sz d H KD=apS s sz d xs H KD:=rfl
def apZ(o:Option (List D))(sz:Nat):Prop:=match o with
 |some z=>z.length=sz
 |none=>False
@[go_sem] theorem C5e(z:List D)(sz:Nat):apZ (some z) sz=(z.length=sz):=rfl
def apT(b:Q0):Prop:=b= .slice∨b= .str
@[go_sem] theorem C4O:apT .slice=True:=by simp[apT]
def apK(P:Program)(et:Option (Nat×Nat×Nat))(bt:Q0)(s x:D)(H:Heap)(KD:D→Heap→Prop):Prop:=match et with
 |some (e,sz,by_)=>0<sz∧apT bt∧apZ (G1 P e) sz∧apX (M3 H sz x) s sz by_ H KD
 |none=>False
@[go_sem] theorem C5f(e sz d:Nat)(g:Q0)(s x:D):apK P (some (e,sz,d)) g s x H KD=(0<sz∧apT g∧apZ (G1 P e) sz∧apX (M3 H sz x) s sz d H KD):=rfl
@[go_sem] theorem C4P(s x:Operand)(t C:Nat):A05 P ev H KD t C s x=apK P (G3 P t) (C6 P C) (ev s) (ev x) H KD:=by
 unfold A05;apply propext;constructor
 ·rintro⟨e,sz,j,h1,r,u,i,xs,h5,q⟩;rw[h1];refine⟨r,u,?_,?_⟩
  ·cases m:G1 P e with
   |none=>rw[m]at i;cases i
   |some z=>rw[m]at i;simpa [apZ]using i
  ·rw[h5];show apS _ _ _ _ _ _;cases hs:ev s<;>rw[hs]at q<;>try exact q.elim
   ·exact q
   ·obtain⟨p,⟨y,es,d,g⟩|⟨es,d,g⟩⟩:=q
    ·refine⟨p,.inl ⟨y,?_⟩⟩;rw[d];exact⟨rfl,g⟩
    ·refine⟨p,.inr ?_⟩;rw[d];exact⟨rfl,g⟩
 ·intro h;cases he:G3 P t with
  |none=>rw[he]at h;exact h.elim
  |some e=>
   obtain⟨e,sz,j⟩:=e;rw[he]at h;obtain⟨r,u,i,h5⟩:=h;cases hx:M3 H sz (ev x)with
   |none=>rw[hx]at h5;exact h5.elim
   |some xs=>
    rw[hx]at h5;refine⟨e,sz,j,rfl,r,u,?_,xs,hx,?_⟩
    ·cases m:G1 P e with
     |none=>rw[m]at i;exact i.elim
     |some z=>rw[m]at i;simpa [apZ]using i
    ·change apS _ _ _ _ _ _ at h5;cases hs:ev s<;>rw[hs]at h5<;>try exact h5.elim
     ·exact h5
     ·rename_i b sz' lo n;obtain⟨p,⟨y,d⟩|d⟩:=h5
      ·refine⟨p,.inl ⟨y,?_⟩⟩;cases ho:H b with
       |none=>rw[ho]at d;exact d.elim
       |some o=>
        rw[ho]at d;cases o with
        |vec A es=>obtain⟨rfl,g⟩:=d;exact⟨es,rfl,g⟩
        |_=>exact d.elim
      ·refine⟨p,.inr ?_⟩;cases ho:H b with
       |none=>rw[ho]at d;exact d.elim
       |some o=>
        rw[ho]at d;cases o with
        |vec A es=>obtain⟨rfl,g⟩:=d;exact⟨es,rfl,g⟩
        |_=>exact d.elim
def msC(z:Option (List D))(sz by_:Nat)(l c:D)(H:Heap)(KD:D→Heap→Prop):Prop:=match z,l,c with
 |some z,.int _ n,.int _ m=>z.length=sz∧0≤n∧n≤m∧by_*m≤281474976710656∧m<9223372036854775808∧∀b,H b=none→KD (.vec b sz 0 n.toNat) (H.set b (.vec sz (List.replicate n.toNat z)))
 |_,_,_=>False
@[go_sem] theorem C62(z:List D)(sz d:Nat)(k e:IntKind)(n m:Int):msC (some z) sz d (.int k n) (.int e m) H KD=(z.length=sz∧0≤n∧n≤m∧d*m≤281474976710656∧m<9223372036854775808∧∀b,H b=none→KD (.vec b sz 0 n.toNat) (H.set b (.vec sz (List.replicate n.toNat z)))):=rfl
def msA(P:Program)(et:Option (Nat×Nat×Nat))(l c:D)(H:Heap)(KD:D→Heap→Prop):Prop:=match et with
 |some (e,sz,by_)=>0<sz∧msC (G1 P e) sz by_ l c H KD
 |none=>False
@[go_sem] theorem C5g(e sz d:Nat)(l c:D):msA P (some (e,sz,d)) l c H KD=(0<sz∧msC (G1 P e) sz d l c H KD):=rfl
@[go_sem] theorem C0t(t:Nat)(l c:Operand):C8 P ev H KD (.makeSlice t l c)=msA P (G3 P t) (ev l) (ev c) H KD:=by
 simp only[C8];apply propext;constructor
 ·rintro⟨e,sz,g,z,k,n,r,m,h1,i,d,o,h5,p,q⟩;rw[h1,h5,p];refine⟨i,?_⟩;rw[d];exact⟨o,q⟩
 ·intro h;cases he:G3 P t with
  |none=>rw[he]at h;exact h.elim
  |some e=>
   obtain⟨e,sz,g⟩:=e;rw[he]at h;obtain⟨i,d⟩:=h;cases j:G1 P e with
   |none=>rw[j]at d;exact d.elim
   |some z=>
    rw[j]at d;cases hl:ev l<;>rw[hl]at d<;>try exact d.elim
    cases hc:ev c<;>rw[hc]at d<;>try exact d.elim
    exact⟨e,sz,g,z,_,_,_,_,rfl,i,j,d.1,rfl,rfl,d.2⟩
def A6c(P:Program)(t:Nat):Option IntKind:=match P.underlying t with
 |some (.int k)=>some k
 |_=>none
def B5N(P:Program)(t:Nat):Bool:=match P.underlying t with
 |some (.slice e)=>match P.underlying e with
  |some (.int .u8)=>true
  |_=>false
 |_=>false
def cvI(d:D)(k:Option IntKind)(H:Heap)(KD:D→Heap→Prop):Prop:=match d,k with
 | .int _ n,some k=>KD (.int k (k.wrap n)) H
 |_,_=>False
@[go_sem] theorem C63(k d:IntKind)(n:Int):cvI (.int k n) (some d) H KD=KD (.int d (d.wrap n)) H:=rfl
@[go_sem] theorem C4Q(s t:Nat)(x:Operand)(h1:(A6c P s).isSome=true)(d:(A6c P t).isSome=true):C8 P ev H KD (.convert s t x)=cvI (ev x) (A6c P t) H KD:=by
 unfold A6c at h1 d;split at h1
 ·rename_i e e1;split at d
  ·rename_i g e2;have hc:I5 P (.convert s t x)= .pure:=by simp[I5,e1,e2]
   simp only[C8,hc,K2];unfold cvI A6c;rw[e2];cases hx:ev x<;>simp[B2D,e1,e2,hx,A9g e1]
  ·cases d
 ·cases h1
def C70(d:D)(H:Heap)(KD:D→Heap→Prop):Prop:=match d with
 | .int _ n=>KD (.str (Utf8.encode n)) H
 |_=>False
@[go_sem] theorem C5h(k:IntKind)(n:Int):C70 (.int k n) H KD=KD (.str (Utf8.encode n)) H:=rfl
def C5i(d:D)(H:Heap)(KD:D→Heap→Prop):Prop:=match d with
 | .str z=>∀b,H b=none→KD (.vec b 1 0 z.size) (H.set b (.vec 1 (E7 z)))
 |_=>False
@[go_sem] theorem C5j(z:ByteArray):C5i (.str z) H KD= ∀b,H b=none→KD (.vec b 1 0 z.size) (H.set b (.vec 1 (E7 z))):=rfl
theorem A60(s t:Nat)(x:Operand)(h1:C6 P s= .str)(d:B5N P t=true)(h:C5i (ev x) H KD):C8 P ev H KD (.convert s t x):=by
 obtain⟨e,g,he⟩: ∃e,P.underlying t=some (.slice e)∧P.underlying e=some (.int .u8):=by
  unfold B5N at d;split at d
  ·rename_i e g;split at d
   ·rename_i he;exact⟨e,g,he⟩
   ·cases d
  ·cases d
 have hs:P.underlying s=some .string:=by
  unfold C6 at h1;split at h1<;>simp_all
 have hc:I5 P (.convert s t x)= .eff:=by simp[I5,hs,g]
 simp only[C8,hc,A24];cases hx:ev x<;>rw[hx]at h<;>try exact h.elim
 exact⟨h1,by simp[g,he],h⟩
def A76(P:Program)(t:Nat)(x:D)(H:Heap)(KD:D→Heap→Prop):Prop:=match x with
 | .str s=>P.underlying t=some .string∧∀b,H b=none→KD (.box b 0) (H.set b (.iter s 0))
 | .fm kvs=>(A25 P t).isSome=true∧∀b,H b=none→KD (.box b 0) (H.set b (.rng kvs []))
 |_=>False
@[go_sem] theorem C64(t:Nat)(x:Operand):C8 P ev H KD (.range t x)=A76 P t (ev x) H KD:=by
 unfold A76;rfl
@[go_sem] theorem C4R(t:Nat)(kvs:List (D×D)):A76 P t (.fm kvs) H KD=((A25 P t).isSome=true∧∀b,H b=none→KD (.box b 0) (H.set b (.rng kvs []))):=rfl
@[go_sem] theorem C19(t:Nat)(s:ByteArray):A76 P t (.str s) H KD=(P.underlying t=some .string∧∀b,H b=none→KD (.box b 0) (H.set b (.iter s 0))):=rfl
def B2T(o:Option Obj)(b:Nat)(H:Heap)(KD:D→Heap→Prop):Prop:=match o with
 |some (.iter s pos)=>(pos<s.size→KD (.tuple [.bool true,.int .i64 pos,.int .i32 (Utf8.decode s pos).1]) (H.set b (.iter s (pos+(Utf8.decode s pos).2))))∧(¬pos<s.size→KD (.tuple [.bool false]) H)
 |_=>False
def B5O(x:D)(H:Heap)(KD:D→Heap→Prop):Prop:=match x with
 | .box b 0=>B2T (H b) b H KD
 |_=>False
@[go_sem] theorem C71(x:Operand):C8 P ev H KD (.next x true)=B5O (ev x) H KD:=by
 unfold B5O B2T;simp only[C8];cases ev x<;>try rfl
 rename_i b off;cases off<;>rfl
def nxR(kvs:List (D×D))(seen:List Nat)(b:Nat)(H:Heap)(KD:D→Heap→Prop):Prop:=(∀i p,kvs[i]? =some p→i∉seen→KD (.tuple [.bool true,p.1,p.2]) (H.set b (.rng kvs (seen++[i]))))∧((∀i,i<kvs.length→i∈seen)→KD (.tuple [.bool false]) H)
theorem A77{kvs:List (D×D)}{seen:List Nat}{b:Nat}(h1: ∀i (hi:i<kvs.length),i∉seen→KD (.tuple [.bool true,kvs[i].1,kvs[i].2]) (H.set b (.rng kvs (seen++[i]))))(d:(∀i,i<kvs.length→i∈seen)→KD (.tuple [.bool false]) H):nxR kvs seen b H KD:=
 ⟨fun i p hp hn=>by obtain⟨hi,rfl⟩:=C9z.1 hp;exact h1 i hi hn,d⟩
def B2U(o:Option Obj)(b:Nat)(H:Heap)(KD:D→Heap→Prop):Prop:=match o with
 |some (.rng kvs seen)=>nxR kvs seen b H KD
 |_=>False
def B5P(x:D)(H:Heap)(KD:D→Heap→Prop):Prop:=match x with
 | .box b 0=>B2U (H b) b H KD
 |_=>False
@[go_sem] theorem C66(x:Operand):C8 P ev H KD (.next x false)=B5P (ev x) H KD:=by
 unfold B5P B2U nxR;simp only[C8];cases ev x<;>try rfl
 rename_i b off;cases off<;>rfl
@[go_sem] theorem C4S(b:Nat):B5P (.box b 0) H KD=B2U (H b) b H KD:=rfl
@[go_sem] theorem C4T(kvs:List (D×D))(seen:List Nat)(b:Nat):B2U (some (.rng kvs seen)) b H KD=nxR kvs seen b H KD:=rfl
def B8V(o:Option (D×D))(H:Heap)(KD:D→Heap→Prop):Prop:=match o with
 |some p=>KD (.tuple [p.1,p.2]) H
 |none=>False
def B5Q(o:Option Nat)(kvs:List (D×D))(H:Heap)(KD:D→Heap→Prop):Prop:=match o with
 |some i=>B8V kvs[i]? H KD
 |none=>False
def B8W(o:Option Obj)(H:Heap)(KD:D→Heap→Prop):Prop:=match o with
 |some (.rng kvs seen)=>B5Q seen.getLast? kvs H KD
 |_=>False
def C2A(x:D)(H:Heap)(KD:D→Heap→Prop):Prop:=match x with
 | .box b 0=>B8W (H b) H KD
 |_=>False
theorem B8X(o:Option Nat)(kvs:List (D×D)):(∃i p,o=some i∧kvs[i]? =some p∧KD (.tuple [p.1,p.2]) H)=B5Q o kvs H KD:=by
 unfold B5Q B8V;cases o with
 |none=>simp
 |some i=>
  cases e:kvs[i]? with
  |none=>simp[e]
  |some p=>exact propext ⟨fun⟨j,q,h1,d,g⟩=>by cases h1;rw[e]at d;cases d;simp only[e];exact g,fun h=>⟨i,p,rfl,e,by simp only[e]at h;exact h⟩⟩
@[go_sem] theorem C67(x:Operand):C8 P ev H KD (.entry x)=C2A (ev x) H KD:=by
 unfold C2A B8W;simp only[C8,B8X];cases ev x<;>try rfl
@[go_sem] theorem C5k(b:Nat):C2A (.box b 0) H KD=B8W (H b) H KD:=rfl
@[go_sem] theorem C5l(kvs:List (D×D))(seen:List Nat):B8W (some (.rng kvs seen)) H KD=B5Q seen.getLast? kvs H KD:=rfl
@[go_sem] theorem C4U(i:Nat)(kvs:List (D×D)):B5Q (some i) kvs H KD=B8V kvs[i]? H KD:=rfl
@[go_sem] theorem C4V(p:D×D):B8V (some p) H KD=KD (.tuple [p.1,p.2]) H:=rfl
@[go_sem] theorem C4W(b:Nat):B5O (.box b 0) H KD=B2T (H b) b H KD:=rfl
@[go_sem] theorem C2B(s:ByteArray)(pos b:Nat):B2T (some (.iter s pos)) b H KD=((pos<s.size→KD (.tuple [.bool true,.int .i64 pos,.int .i32 (Utf8.decode s pos).1]) (H.set b (.iter s (pos+(Utf8.decode s pos).2))))∧(¬pos<s.size→KD (.tuple [.bool false]) H)):=rfl
variable {t:Nat}
@[go_sem] theorem A2(b:Nat)(o:Obj):(H.set b o) b=some o:=by simp[Heap.set]
theorem B9{b k:Nat}(o:Obj)(h:k≠b):(H.set b o) k=H k:=by simp[Heap.set,h]
@[go_sem] theorem B8Y(b:Nat)(o o':Obj):(H.set b o).set b o'=H.set b o':=by
 funext k;unfold Heap.set;split<;>rfl
theorem B2{b:Nat}{o:Obj}(h:H b=some o):(H.set b o).Le H:=fun k x hx=>by
 unfold Heap.set at hx;split at hx
 ·rename_i e;rw[e,h];exact hx
 ·exact hx
theorem A6{b k:Nat}{o:Obj}:(H.set b o) k=none↔k≠b∧H k=none:=by unfold Heap.set;by_cases h:k=b<;>simp[h]
theorem F0{b k:Nat}(h:k≠b):(H.del b) k=H k:=by simp[Heap.del,h]
theorem A0{b:Nat}{o:Obj}(h:H b=none):H.Le (H.set b o):=fun k x hx=>by
 rw[B9 o (by rintro rfl;rw[h]at hx;cases hx)];exact hx
theorem A3{b k:Nat}(o:Obj)(h:k≠b):(H.set b o) k=H k:=by simp[Heap.set,h]
def B5R:Option (Bool×Nat)→Option (List D)→Option D
 |some s,some cs=>q0 s cs
 |_,_=>none
@[go_sem] theorem C5m(a:D):q9 P t a H=B5R (F3 P t) (A3p H a):=by
 unfold q9 B5R;cases F3 P t<;>simp;cases A3p H a<;>rfl
@[go_sem] theorem C2C(s:Bool×Nat)(cs:List D):B5R (some s) (some cs)=q0 s cs:=rfl
def C5n:Option Obj→Nat→Option (List D)
 |some (.box cs _),off=>some (cs.drop off)
 |_,_=>none
def C5o:Option Obj→Nat→Nat→Nat→Option (List D)
 |some (.vec sz' es),sz,i,off=>if sz=sz' then(es[i]?).map (·.drop off)else none
 |_,_,_,_=>none
@[go_sem] theorem C68(b off:Nat):A3p H (.box b off)=C5n (H b) off:=by
 simp only[A3p];generalize H b=o;cases o with
 |none=>rfl
 |some o=>cases o<;>rfl
@[go_sem] theorem C72(b sz i off:Nat):A3p H (.el b sz i off)=C5o (H b) sz i off:=by
 simp only[A3p];generalize H b=o;cases o with
 |none=>rfl
 |some o=>cases o<;>rfl
@[go_sem] theorem C73(cs:List D):A3p H (.ro cs)=some cs:=rfl
@[go_sem] theorem C5p(cs:List D)(Z:Option TypeId)(off:Nat):C5n (some (.box cs Z)) off=some (cs.drop off):=rfl
@[go_sem] theorem C5q(sz sz' i off:Nat)(es:List (List D)):C5o (some (.vec sz' es)) sz i off=if sz=sz' then(es[i]?).map (·.drop off)else none:=rfl
@[go_sem] theorem C5r(n:Nat)(cs:List D):q0 (false,n) cs=cs.head?:=rfl
@[go_sem] theorem C5s(n:Nat)(cs:List D):q0 (true,n) cs=if n≤cs.length then some (.agg (cs.take n))else none:=rfl
def A34:Option (Bool×Nat)→Option Obj→Nat→Nat→List D→Heap→Option Heap
 |some (_,n),some (.box cs Z),b,off,xs,H=>if n=xs.length∧xs.all D.one=true∧off+xs.length≤cs.length then some (H.set b (.box (O7 cs off xs) Z))else none
 |_,_,_,_,_,_=>none
def u7:Option (Bool×Nat)→Option Obj→Nat→Nat→Nat→Nat→List D→Heap→Option Heap
 |some (_,n),some (.vec sz' es),b,sz,i,off,xs,H=>if n=xs.length∧xs.all D.one=true∧sz=sz'∧i<es.length∧off+xs.length≤sz then some (H.set b (.vec sz (es.set i (O7 (es.getD i []) off xs))))else none
 |_,_,_,_,_,_,_,_=>none
@[go_sem] theorem C4X(b off:Nat)(x:D):X3 P t (.box b off) x H=A34 (F3 P t) (H b) b off x.cells H:=by
 unfold X3;cases hs:F3 P t with
 |none=>simp[A34]
 |some s=>
  obtain⟨bb,n⟩:=s;cases hb:H b with
  |none=>simp[A34,hb]
  |some o=>cases o with
   |box cs=>
    simp only[Option.map_some,D0R,A34,hb];by_cases h1:n=x.cells.length<;>by_cases d:x.cells.all D.one=true<;>by_cases e:off+x.cells.length≤cs.length<;>simp only[h1,d,e]<;>simp
   |_=>simp[A34,hb]
@[go_sem] theorem C5t(b sz i off:Nat)(x:D):X3 P t (.el b sz i off) x H=u7 (F3 P t) (H b) b sz i off x.cells H:=by
 unfold X3;cases hs:F3 P t with
 |none=>simp[u7]
 |some s=>
  obtain⟨bb,n⟩:=s;cases hb:H b with
  |none=>simp[u7,hb]
  |some o=>cases o with
   |box cs=>simp[u7,hb]
   |ro cs=>simp[u7,hb]
   |iter=>simp[u7,hb]
   |map=>simp[u7,hb]
   |rng=>simp[u7,hb]
   |buf=>simp[u7,hb]
   |vec sz' es=>
    simp only[Option.map_some,D0R,u7,hb];by_cases h1:n=x.cells.length<;>by_cases d:x.cells.all D.one=true<;>simp only[h1,d]<;>simp
@[go_sem] theorem C2D(bb:Bool)(n b off:Nat)(cs xs:List D)(Z:Option TypeId):A34 (some (bb,n)) (some (.box cs Z)) b off xs H=if n=xs.length∧xs.all D.one=true∧off+xs.length≤cs.length then some (H.set b (.box (O7 cs off xs) Z))else none:=rfl
@[go_sem] theorem C2E(bb:Bool)(n b sz sz' i off:Nat)(es:List (List D))(xs:List D):u7 (some (bb,n)) (some (.vec sz' es)) b sz i off xs H=if n=xs.length∧xs.all D.one=true∧sz=sz'∧i<es.length∧off+xs.length≤sz then some (H.set b (.vec sz (es.set i (O7 (es.getD i []) off xs))))else none:=rfl
@[go_sem] theorem C4Y(cs:List D)(i:Nat):O7 cs i []=cs:=by cases cs<;>rfl
@[go_sem] theorem C2F(cs xs:List D)(i:Nat)(x:D):O7 cs i (x::xs)=O7 (cs.set i x) (i+1) xs:=by cases cs<;>rfl
@[go_sem] theorem C4Z(cs:List D):(D.agg cs).cells=cs:=rfl
@[go_sem] theorem C4a(k:IntKind)(n:Int):(D.int k n).cells= [.int k n]:=rfl
@[go_sem] theorem C2G(b:Bool):(D.bool b).cells= [.bool b]:=rfl
@[go_sem] theorem C4b(s:ByteArray):(D.str s).cells= [.str s]:=rfl
@[go_sem] theorem C0u:D.nilsl.cells= [.nilsl]:=rfl
@[go_sem] theorem C5u(sz:Nat)(es:List (List D)):(D.sl sz es).cells= [.sl sz es]:=rfl
@[go_sem] theorem C4c(b sz lo n:Nat):(D.vec b sz lo n).cells= [.vec b sz lo n]:=rfl
@[go_sem] theorem C4d(b:Nat):(D.map b).cells= [.map b]:=rfl
attribute [go_sem] D.one
def u8(e:Option (Nat×Nat×Nat))(sz:Nat)(o:Option D):Option D:=match e with
 |some (_,sz',_)=>if sz'=sz then o else none
 |none=>none
@[go_sem] theorem C0v(e sz' d sz:Nat)(o:Option D):u8 (some (e,sz',d)) sz o=if sz'=sz then o else none:=rfl
def A2m(x:D):Option (Nat×Nat)→Option D
 |none=>none
 |some (l,h)=>match x with
  | .str s=>some (.str (s.extract l h))
  | .nilsl=>some .nilsl
  | .sl sz es=>some (.sl sz ((es.take h).drop l))
  | .vec b sz lo _=>some (if l=0 then .vec b sz lo h else .vec b sz (lo+l) (h-l))
  |_=>none
def X6(x:D)(b:Option (Nat×Nat)):Option D:=A2m x b
theorem A1l(x:D)(c:Prop) [Decidable c] (b:Option (Nat×Nat)):X6 x (if c then b else none)=if c then X6 x b else none:=by split<;>rfl
theorem C2H(n:Nat)(k:IntKind)(l:Int):boundsD n (some (.int k l)) none=if 0≤l∧l≤n then some (l.toNat,n)else none:=rfl
theorem C2I(n:Nat)(k:IntKind)(h:Int):boundsD n none (some (.int k h))=if 0≤h∧h≤n then some (0,h.toNat)else none:=rfl
theorem C2J(n:Nat)(k d:IntKind)(l h:Int):boundsD n (some (.int k l)) (some (.int d h))=if 0≤l∧l≤h∧h≤n then some (l.toNat,h.toNat)else none:=rfl
theorem A35(s:ByteArray)(lo d:Option D):S5 P t (.str s) lo d=if C6 P t= .str then X6 (.str s) (boundsD s.size lo d)else none:=by
 simp only[S5,X6];generalize boundsD s.size lo d=o;cases o<;>rfl
def B1L(b:Q0)(o:Option D):Option D:=if b= .str then o else none
@[go_sem] theorem C5v(o:Option D):B1L .str o=o:=rfl
@[go_sem] theorem B8Z(s:ByteArray)(k:IntKind)(l:Int):S5 P t (.str s) (some (.int k l)) none=B1L (C6 P t) (if 0≤l∧l≤s.size then some (.str (S ((B s).drop l.toNat)))else none):=by
 rw[A35];unfold B1L;have:s.extract l.toNat s.size=S ((B s).drop l.toNat):=by rw[A32,←Y7,List.take_length]
 rw[C2H,A1l];split
 ·split
  ·show some (D.str (s.extract l.toNat s.size))=_;rw[this]
  ·rfl
 ·rfl
@[go_sem] theorem B8a(s:ByteArray)(k:IntKind)(h:Int):S5 P t (.str s) none (some (.int k h))=B1L (C6 P t) (if 0≤h∧h≤s.size then some (.str (S ((B s).take h.toNat)))else none):=by
 rw[A35];unfold B1L;have:s.extract 0 h.toNat=S ((B s).take h.toNat):=by rw[A32,List.drop_zero]
 rw[C2I,A1l];split
 ·split
  ·show some (D.str (s.extract 0 h.toNat))=_;rw[this]
  ·rfl
 ·rfl
@[go_sem] theorem B8b(s:ByteArray)(k d:IntKind)(l h:Int):S5 P t (.str s) (some (.int k l)) (some (.int d h))=B1L (C6 P t) (if 0≤l∧l≤h∧h≤s.size then some (.str (S (((B s).take h.toNat).drop l.toNat)))else none):=by
 rw[A35];unfold B1L;rw[C2J,A1l];split
 ·split
  ·show some (D.str (s.extract l.toNat h.toNat))=_;rw[A32]
  ·rfl
 ·rfl
@[go_sem] theorem C4e(lo d:Option D):S5 P t .nilsl lo d=if(G3 P t).isSome then X6 .nilsl (boundsD 0 lo d)else none:=by
 simp only[S5,X6];generalize boundsD 0 lo d=o;cases o<;>rfl
@[go_sem] theorem C5w(sz:Nat)(es:List (List D))(lo d:Option D):S5 P t (.sl sz es) lo d=u8 (G3 P t) sz (X6 (.sl sz es) (boundsD es.length lo d)):=by
 simp only[S5,X6];generalize boundsD es.length lo d=o;cases G3 P t with
 |none=>simp[u8]
 |some e=>cases o<;>simp[A2m,u8]
@[go_sem] theorem C4f(b sz l n:Nat)(lo d:Option D):S5 P t (.vec b sz l n) lo d=u8 (G3 P t) sz (X6 (.vec b sz l n) (boundsD n lo d)):=by
 simp only[S5,X6];generalize boundsD n lo d=o;cases G3 P t with
 |none=>simp[u8]
 |some e=>cases o<;>simp[A2m,u8]
@[go_sem] theorem C0w(x:D)(l h:Nat):X6 x (some (l,h))=A2m x (some (l,h)):=rfl
@[go_sem] theorem C2K(x:D)(c:Prop) [Decidable c] (b:Option (Nat×Nat)):X6 x (if c then b else none)=if c then X6 x b else none:=by split<;>rfl
@[go_sem] theorem C2L(l h:Nat):A2m .nilsl (some (l,h))=some .nilsl:=rfl
@[go_sem] theorem C4g(sz l h:Nat)(es:List (List D)):A2m (.sl sz es) (some (l,h))=some (.sl sz ((es.take h).drop l)):=rfl
@[go_sem] theorem C2M(b sz lo n l h:Nat):A2m (.vec b sz lo n) (some (l,h))=some (if l=0 then .vec b sz lo h else .vec b sz (lo+l) (h-l)):=rfl
@[go_sem] theorem C9A(n:Nat)(k:IntKind)(l:Int):boundsD n (some (.int k l)) none=if 0≤l∧l≤n then some (l.toNat,n)else none:=rfl
@[go_sem] theorem C9B(n:Nat)(k:IntKind)(h:Int):boundsD n none (some (.int k h))=if 0≤h∧h≤n then some (0,h.toNat)else none:=rfl
@[go_sem] theorem C69(s:ByteArray):A5M P t (.str s)=if C6 P t= .str then some (.int .i64 s.size)else none:=rfl
@[go_sem] theorem C7A:A5M P t .nilsl=if C6 P t= .slice then some (.int .i64 0)else none:=rfl
@[go_sem] theorem C74(sz:Nat)(es:List (List D)):A5M P t (.sl sz es)=if C6 P t= .slice then some (.int .i64 es.length)else none:=rfl
@[go_sem] theorem C7B(b sz lo n:Nat):A5M P t (.vec b sz lo n)=if C6 P t= .slice then some (.int .i64 n)else none:=rfl
@[go_sem] theorem C75(s:ByteArray)(k:IntKind)(n:Int):A5N P t (.str s) (.int k n)=if C6 P t= .str∧0≤n∧n<s.size then some (.int .u8 (W4 s n))else none:=rfl
@[go_sem] theorem C9C(sz:Nat)(es:List (List D))(k:IntKind)(n:Int):P4 P t (.sl sz es) (.int k n)=u8 (G3 P t) sz (if 0≤n∧n<es.length then some (.ro (es.getD n.toNat []))else none):=by
 unfold P4 u8;cases G3 P t with
 |none=>simp
 |some e=>obtain⟨a,b,c⟩:=e;by_cases h:b=sz<;>simp[h]
@[go_sem] theorem C76(b sz l m:Nat)(k:IntKind)(n:Int):P4 P t (.vec b sz l m) (.int k n)=u8 (G3 P t) sz (if 0≤n∧n<m then some (.el b sz (l+n.toNat) 0)else none):=by
 unfold P4 u8;cases G3 P t with
 |none=>simp
 |some e=>obtain⟨a,d,c⟩:=e;by_cases h:d=sz<;>simp[h]
def A5l(f:Option (Nat×Bool×Nat))(x:D):Option D:=match f with
 |some (o,_,n)=>if n=0 then none else match x with
  | .box b off=>some (.box b (off+o))
  | .el b sz i off=>some (.el b sz i (off+o))
  | .ro cs=>some (.ro (cs.drop o))
  |_=>none
 |none=>none
def A78(l:Option (List (Nat×Bool×Nat)))(f:Nat):Option (Nat×Bool×Nat):=match l with
 |some l=>l[f]?
 |none=>none
@[go_sem] theorem B8c(l:List (Nat×Bool×Nat))(f:Nat):A78 (some l) f=l[f]? :=rfl
@[go_sem] theorem C77(x:D)(f:Nat):X1 P t x f=A5l (A78 (K8 P t) f) x:=by
 unfold X1 A5l A78;cases K8 P t<;>rfl
@[go_sem] theorem C2N(o n b off:Nat)(bb:Bool):A5l (some (o,bb,n)) (.box b off)=if n=0 then none else some (.box b (off+o)):=rfl
@[go_sem] theorem C4h(o n b sz i off:Nat)(bb:Bool):A5l (some (o,bb,n)) (.el b sz i off)=if n=0 then none else some (.el b sz i (off+o)):=rfl
@[go_sem] theorem C4i(o n:Nat)(bb:Bool)(cs:List D):A5l (some (o,bb,n)) (.ro cs)=if n=0 then none else some (.ro (cs.drop o)):=rfl
@[go_sem] theorem C5x(d:List ResultVar)(Q:D→Heap→Prop):A7z P d Q .ret E H=B8O (A2k P d E H) Q H:=rfl
@[go_sem] theorem C0x(d:List ResultVar)(Q:D→Heap→Prop):A7z P d Q .normal E H=B8O (A2k P d E H) Q H:=rfl
@[go_sem] theorem C4j(d:D)(Q:D→Heap→Prop):B8O (some d) Q H=Fin Q d H:=by simp[B8O]
@[go_sem] theorem C4k:A2k P [] E H=some (.tuple []):=rfl
@[go_sem] theorem C5y(t:Nat):A2k P [.tmp t] E H=some (E.get t):=rfl
def B1M(P:Program)(rs:List ResultVar)(E:Env)(H:Heap):Option (List D):=rs.mapM (A0H P E H)
def C0y:Option D→Option (List D)→Option (List D)
 |some d,some l=>some (d::l)
 |_,_=>none
@[go_sem] theorem C2O(d:D)(l:List D):C0y (some d) (some l)=some (d::l):=rfl
@[go_sem] theorem C5z:B1M P [] E H=some []:=rfl
@[go_sem] theorem A61(r:ResultVar)(d:List ResultVar):B1M P (r::d) E H=C0y (A0H P E H r) (B1M P d E H):=by
 simp only[B1M,List.mapM_cons,Option.bind_eq_bind,Option.pure_def];cases A0H P E H r<;>cases List.mapM (A0H P E H) d<;>rfl
@[go_sem] theorem C4l(r d:ResultVar)(e:List ResultVar):A2k P (r::d::e) E H=(B1M P (r::d::e) E H).map .tuple:=by
 unfold A2k;show Option.map _ (B1M P (r::d::e) E H)=_;rw[A61,A61];cases A0H P E H r<;>cases A0H P E H d<;>cases B1M P e E H<;>rfl
@[go_sem] theorem C4m(t:Nat):A0H P E H (.tmp t)=some (E.get t):=rfl
@[go_sem] theorem C2P(a t:Nat):A0H P E H (.cell a t)=q9 P t (E.get a) H:=rfl
@[go_sem] theorem C4n(a t:Nat):A2k P [.cell a t] E H=q9 P t (E.get a) H:=by
 simp[A2k,A0H,List.mapM_cons];cases q9 P t (E.get a) H<;>rfl
end
theorem A4{x:Int}(h1: -9223372036854775808≤x)(d:x≤9223372036854775807):IntKind.i64.wrap x=x:=IntWalk.i64_in _ (by omega)
def Sub:Env→Env→Prop
 | [],_=>True
 |(i,d)::r,E=>E.get i=d∧Sub r E
def Nx{ι :Type}(Ei: ι →Env)(Hi: ι →Heap)(Inv: ι →Prop)(μ : ι →Nat)(x: ι):Env→Heap→Prop:=fun E' H'=>∃y,Inv y∧ μ y< μ x∧A1D (Ei y) (Hi y) E' H'
theorem Sub.all: ∀{E0 E:Env},Sub E0 E→∀p∈E0,E.get p.1=p.2
 | [],_,_,_,hp=>by simp at hp
 |(i,d)::r,E,h,p,hp=>by
  rcases D0H.1 hp with rfl|hp
  ·exact h.1
  ·exact Sub.all h.2 p hp
theorem C2Q{P:Program}{Z:List (Nat×Rc)}{c:Code}{Q:AX→Env→Heap→Prop}{E:Env}{H:Heap}{ι :Type}(e: ι →Env)(g: ι →Heap)(d: ι →Prop)(μ : ι →Nat)(h: ι)(p:d h)(hw:A1D (e h) (g h) E H)
  (step: ∀x,d x→wp P Z c (A5i Q (Nx e g d μ x)) (e x) (g x)):B5A P Z c Q E H:=by
 refine⟨fun n E H=>∃x,d x∧ μ x=n∧E=e x∧H=g x,⟨μ h,e h,g h,hw,h,p,rfl,rfl,rfl⟩,?_⟩;rintro n q r ⟨x,hx,rfl,rfl,rfl⟩;have i:(fun o H'=>∃m E0 H0,m< μ x∧A1D E0 H0 o H'∧∃x,d x∧ μ x=m∧E0=e x∧H0=g x)=Nx e g d μ x:=by
  funext o H'
  apply propext;constructor
  ·rintro⟨m,E0,H0,hm,hw,y,j,rfl,rfl,rfl⟩;exact⟨y,j,hm,hw⟩
  ·rintro⟨y,j,hm,hs⟩;exact⟨μ y,e y,g y,hm,hs,y,j,rfl,rfl,rfl⟩
 have:=step x hx;rw[i];exact this
theorem C2R{P:Program}{Z:List (Nat×Rc)}{c:Code}{Q:AX→Env→Heap→Prop}{E:Env}{H:Heap}{ι :Type}(e: ι →Env)(g: ι →Heap)(d: ι →Prop)(μ : ι →Nat)(h: ι)(i:d h)(j:Sub (e h) E)(m:(g h).Le H)
  (step: ∀x,d x→wp P Z c (A5i Q (Nx e g d μ x)) (e x) (g x)):B5A P Z c Q E H:=C2Q e g d μ h i (A7y j.all m) step
attribute [go_sem] Sub
theorem v8{P:Program}{K:Env→Heap→Prop}{E:Env}{H:Heap}{d:List (Option Nat)}{ops:List Oper}(E0:Env)(H0:Heap)(e:Sub E0 E)(g:H0.Le H)(h:wpOps P d K ops E0 H0):A4Z P d ops K E H (some .wk):=⟨E0,H0,A7y e.all g,h⟩
theorem A2G{C T G:Prop}(h:(C→T)→G)(t:C→T):G:=h t
def A2n(E:Env):List Nat→Env
 | []=>[]
 |t::ts=>(t,E.get t)::A2n E ts
def cat:Env→Env→Env
 | [],F=>F
 |p::E,F=>p::cat E F
@[go_sem] theorem C2S(E:Env):A2n E []= []:=rfl
@[go_sem] theorem C00(E:Env)(t:Nat)(d:List Nat):A2n E (t::d)=(t,E.get t)::A2n E d:=rfl
@[go_sem] theorem C7C(F:Env):cat [] F=F:=rfl
@[go_sem] theorem C50(p:Nat×D)(E F:Env):cat (p::E) F=p::cat E F:=rfl
theorem B2V: ∀{A B E:Env},Sub A E→Sub B E→Sub (cat A B) E
 | [],_,_,_,h=>h
 |_::_,_,_,h1,d=>⟨h1.1,B2V h1.2 d⟩
theorem A5m(E:Env): ∀d,Sub (A2n E d) E
 | []=>trivial
 |_::d=>⟨rfl,A5m E d⟩
theorem C9{P:Program}{Z:List (Nat×Rc)}{c:Code}{Q:AX→Env→Heap→Prop}{E:Env}{H:Heap}{ι :Type}(i:List Nat)(e: ι →Env)(g: ι →Heap)(d: ι →Prop)(μ : ι →Nat)(h: ι)(j:d h)(m:Sub (e h) E)(o:(g h).Le H)
  (step: ∀Ec,Ec=A2n E i→∀x,d x→wp P Z c (A5i Q (Nx (fun x=>cat Ec (e x)) g d μ x)) (cat Ec (e x)) (g x)):B5A P Z c Q E H:=C2R (fun x=>cat (A2n E i) (e x)) g d μ h j (B2V (A5m E i) m) o (step _ rfl)
theorem C2{ι :Type}{e: ι →Env}{g: ι →Heap}{d: ι →Prop}{μ : ι →Nat}{x: ι}{h:Env}{H':Heap}(y: ι)(h1:d y)(i: μ y< μ x)(j:Sub (e y) h)(m:(g y).Le H'):Nx e g d μ x h H':=⟨y,h1,i,A7y j.all m⟩
theorem B5S{ι :Type}{e: ι →Env}{g: ι →Heap}{d: ι →Prop}{μ : ι →Nat}{x: ι}{h:Env}{H':Heap}(y: ι)(h1:d y)(i: μ y< μ x)(j:A1D (e y) (g y) h H'):Nx e g d μ x h H':=⟨y,h1,i,j⟩
def nth(l:List UInt8)(k:Nat):Int:=((l.getD k 0).toNat:Int)
@[go_sem] theorem C9D(l:List UInt8)(i:Int):W4 (S l) i=nth l i.toNat:=by
 show (((S l).data.toList.getD i.toNat 0).toNat:Int)=_;rw[show (S l).data.toList=l from l9 l];rfl
theorem B5T(s:ByteArray):W4 s 0=nth (B s) 0:=rfl
attribute [irreducible] Fin B5A Nx
attribute [go_sem] U6 D06 List.map_nil Option.map_some Option.map_none D01 D0e D00 D1D D1E Bool.not_eq_true' Bool.not_eq_false' D0B decide_eq_false_iff_not true_and and_true List.drop_succ_cons List.drop_zero List.head?_cons List.take_succ_cons List.take_zero C9u C9w List.set_cons_zero List.set_cons_succ D0s List.all_nil Bool.and_true Bool.true_and List.getElem?_cons_zero D0L Nat.zero_add Nat.add_zero Int.toNat_natCast forall_const implies_true Option.isSome_some ne_eq not_true_eq_false not_false_eq_true C99 beq_iff_eq bne_iff_ne beq_eq_false_iff_ne Nat.le_add_left Nat.not_lt_zero beq_self_eq_true if_true if_false D0N D0X Int.toNat_natCast_add_one Option.map_map List.size_toArray D0G false_imp_iff true_imp_iff C9v D0p D0Y decide_true decide_false List.replicate_succ List.replicate_zero D0O D0P List.append_eq Nat.min_self
end Go.Av
namespace Go.Proofs
open Go.Av
@[go_sem] theorem C41:A6c Tryz.prog 2=some .i64:=by kernel_rfl
@[go_sem] theorem C3i:C6 Tryz.prog 3= .int:=by kernel_rfl
@[go_sem] theorem C1Y:F3 Tryz.prog 3=some (false,1):=by kernel_rfl
@[go_sem] theorem C42:A6c Tryz.prog 3=some .i64:=by kernel_rfl
@[go_sem] theorem C3s:G1 Tryz.prog 3=some [.int .i64 0]:=by kernel_rfl
@[go_sem] theorem C4y:A1X Tryz.prog 3=none:=by kernel_rfl
@[go_sem] theorem C3j:C6 Tryz.prog 4= .bool:=by kernel_rfl
@[go_sem] theorem C1Z:F3 Tryz.prog 4=some (false,1):=by kernel_rfl
@[go_sem] theorem C3t:G1 Tryz.prog 4=some [.bool false]:=by kernel_rfl
@[go_sem] theorem C3v:Go.Av.A5Q Tryz.prog 4=some (.bool false):=by kernel_rfl
@[go_sem] theorem C4z:A1X Tryz.prog 4=none:=by kernel_rfl
@[go_sem] theorem C1a:F3 Tryz.prog 5=some (false,1):=by kernel_rfl
@[go_sem] theorem C3k:C6 Tryz.prog 9= .str:=by kernel_rfl
@[go_sem] theorem C1b:F3 Tryz.prog 9=some (false,1):=by kernel_rfl
@[go_sem] theorem C3u:G1 Tryz.prog 9=some [.str ⟨#[]⟩]:=by kernel_rfl
@[go_sem] theorem C0R:F3 Tryz.prog 22=some (false,1):=by kernel_rfl
@[go_sem] theorem C1B:C6 Tryz.prog 23= .slice:=by kernel_rfl
@[go_sem] theorem C0S:F3 Tryz.prog 23=some (false,1):=by kernel_rfl
@[go_sem] theorem C1P:G3 Tryz.prog 23=some (114,2,24):=by kernel_rfl
@[go_sem] theorem C1C:C6 Tryz.prog 25= .struct:=by kernel_rfl
@[go_sem] theorem C0T:F3 Tryz.prog 25=some (true,3):=by kernel_rfl
@[go_sem] theorem B70:K8 Tryz.prog 25=some [(0,false,1),(1,false,1),(2,false,1)]:=by kernel_rfl
@[go_sem] theorem C1c:G1 Tryz.prog 25=some [.nilsl,.int .i64 0,.bool false]:=by kernel_rfl
@[go_sem] theorem C3l:A1X Tryz.prog 25=none:=by kernel_rfl
@[go_sem] theorem C1D:C6 Tryz.prog 26= .slice:=by kernel_rfl
@[go_sem] theorem C0U:F3 Tryz.prog 26=some (false,1):=by kernel_rfl
@[go_sem] theorem C1Q:G3 Tryz.prog 26=some (28,7,96):=by kernel_rfl
@[go_sem] theorem C1d:G1 Tryz.prog 26=some [.nilsl]:=by kernel_rfl
@[go_sem] theorem C1E:C6 Tryz.prog 28= .struct:=by kernel_rfl
@[go_sem] theorem C0V:F3 Tryz.prog 28=some (true,7):=by kernel_rfl
@[go_sem] theorem B71:K8 Tryz.prog 28=some [(0,false,1),(1,false,1),(2,true,3),(5,false,1),(6,false,1)]:=by kernel_rfl
@[go_sem] theorem C1e:G1 Tryz.prog 28=some [.int .i64 0,.int .i64 0,.nilsl,.int .i64 0,.bool false,.str ⟨#[]⟩,.nilsl]:=by kernel_rfl
@[go_sem] theorem C3m:A1X Tryz.prog 28=none:=by kernel_rfl
@[go_sem] theorem C1F:C6 Tryz.prog 31= .slice:=by kernel_rfl
@[go_sem] theorem C0W:F3 Tryz.prog 31=some (false,1):=by kernel_rfl
@[go_sem] theorem C1R:G3 Tryz.prog 31=some (9,1,16):=by kernel_rfl
@[go_sem] theorem C1G:C6 Tryz.prog 40= .slice:=by kernel_rfl
@[go_sem] theorem C0X:F3 Tryz.prog 40=some (false,1):=by kernel_rfl
@[go_sem] theorem C1S:G3 Tryz.prog 40=some (71,2,24):=by kernel_rfl
@[go_sem] theorem C1H:C6 Tryz.prog 71= .struct:=by kernel_rfl
@[go_sem] theorem C0Y:F3 Tryz.prog 71=some (true,2):=by kernel_rfl
@[go_sem] theorem B72:K8 Tryz.prog 71=some [(0,false,1),(1,false,1)]:=by kernel_rfl
@[go_sem] theorem C40:A03 Tryz.prog 71=some [(0,.str),(1,.int)]:=by kernel_rfl
@[go_sem] theorem C1f:G1 Tryz.prog 71=some [.str ⟨#[]⟩,.int .i64 0]:=by kernel_rfl
@[go_sem] theorem C3n:A1X Tryz.prog 71=none:=by kernel_rfl
@[go_sem] theorem C1I:C6 Tryz.prog 72= .map:=by kernel_rfl
@[go_sem] theorem C0Z:F3 Tryz.prog 72=some (false,1):=by kernel_rfl
@[go_sem] theorem C1g:G1 Tryz.prog 72=some [.nilmap]:=by kernel_rfl
@[go_sem] theorem C3r:A25 Tryz.prog 72=some (9,4,.one .str):=by kernel_rfl
@[go_sem] theorem C3o:A1X Tryz.prog 72=none:=by kernel_rfl
@[go_sem] theorem C1J:C6 Tryz.prog 91= .slice:=by kernel_rfl
@[go_sem] theorem C1T:G3 Tryz.prog 91=some (72,1,8):=by kernel_rfl
@[go_sem] theorem C1K:C6 Tryz.prog 95= .slice:=by kernel_rfl
@[go_sem] theorem C1U:G3 Tryz.prog 95=some (5,1,1):=by kernel_rfl
@[go_sem] theorem C1h:G1 Tryz.prog 97=some [.nilp,.nilsl]:=by kernel_rfl
@[go_sem] theorem C3p:A1X Tryz.prog 97=some 97:=by kernel_rfl
@[go_sem] theorem B96:C6 Tryz.prog 103= .struct:=by kernel_rfl
@[go_sem] theorem B7p:K8 Tryz.prog 103=some [(0,false,1),(1,false,1)]:=by kernel_rfl
@[go_sem] theorem C0a:G1 Tryz.prog 103=some [.str ⟨#[]⟩,.bool false]:=by kernel_rfl
@[go_sem] theorem B97:C6 Tryz.prog 110= .slice:=by kernel_rfl
@[go_sem] theorem B73:F3 Tryz.prog 110=some (false,1):=by kernel_rfl
@[go_sem] theorem C0J:G3 Tryz.prog 110=some (25,3,40):=by kernel_rfl
@[go_sem] theorem C0b:G1 Tryz.prog 110=some [.nilsl]:=by kernel_rfl
@[go_sem] theorem B98:C6 Tryz.prog 114= .struct:=by kernel_rfl
@[go_sem] theorem B74:F3 Tryz.prog 114=some (true,2):=by kernel_rfl
@[go_sem] theorem B7q:K8 Tryz.prog 114=some [(0,false,1),(1,false,1)]:=by kernel_rfl
@[go_sem] theorem C3q:A03 Tryz.prog 114=some [(0,.str),(1,.int)]:=by kernel_rfl
@[go_sem] theorem C0c:G1 Tryz.prog 114=some [.str ⟨#[]⟩,.int .i64 0]:=by kernel_rfl
@[go_sem] theorem C1L:A1X Tryz.prog 114=none:=by kernel_rfl
@[go_sem] theorem B99:C6 Tryz.prog 150= .struct:=by kernel_rfl
@[go_sem] theorem B75:F3 Tryz.prog 150=some (true,2):=by kernel_rfl
@[go_sem] theorem B7r:K8 Tryz.prog 150=some [(0,false,1),(1,false,1)]:=by kernel_rfl
@[go_sem] theorem C0d:G1 Tryz.prog 150=some [.nilsl,.nilmap]:=by kernel_rfl
@[go_sem] theorem C1M:A1X Tryz.prog 150=none:=by kernel_rfl
@[go_sem] theorem C1V:A6c Tryz.prog 163=some .u64:=by kernel_rfl
@[go_sem] theorem B76:F3 Tryz.prog 194=some (false,1):=by kernel_rfl
@[go_sem] theorem C1W:A6c Tryz.prog 194=some .u32:=by kernel_rfl
@[go_sem] theorem C0e:G1 Tryz.prog 194=some [.int .u32 0]:=by kernel_rfl
@[go_sem] theorem C1X:A6c Tryz.prog 196=some .u64:=by kernel_rfl
@[go_sem] theorem C0A:C6 Tryz.prog 208= .slice:=by kernel_rfl
@[go_sem] theorem C0K:G3 Tryz.prog 208=some (110,1,24):=by kernel_rfl
@[go_sem] theorem C0B:C6 Tryz.prog 210= .slice:=by kernel_rfl
@[go_sem] theorem C0L:G3 Tryz.prog 210=some (26,1,24):=by kernel_rfl
@[go_sem] theorem C0C:C6 Tryz.prog 216= .slice:=by kernel_rfl
@[go_sem] theorem B77:F3 Tryz.prog 216=some (false,1):=by kernel_rfl
@[go_sem] theorem C0M:G3 Tryz.prog 216=some (246,4,64):=by kernel_rfl
@[go_sem] theorem C0f:G1 Tryz.prog 216=some [.nilsl]:=by kernel_rfl
@[go_sem] theorem C0D:C6 Tryz.prog 219= .slice:=by kernel_rfl
@[go_sem] theorem C0N:G3 Tryz.prog 219=some (3,1,8):=by kernel_rfl
@[go_sem] theorem C0E:C6 Tryz.prog 240= .slice:=by kernel_rfl
@[go_sem] theorem B78:F3 Tryz.prog 240=some (false,1):=by kernel_rfl
@[go_sem] theorem C0O:G3 Tryz.prog 240=some (244,2,32):=by kernel_rfl
@[go_sem] theorem C0F:C6 Tryz.prog 242= .slice:=by kernel_rfl
@[go_sem] theorem B79:F3 Tryz.prog 242=some (false,1):=by kernel_rfl
@[go_sem] theorem C0P:G3 Tryz.prog 242=some (194,1,4):=by kernel_rfl
@[go_sem] theorem C0G:C6 Tryz.prog 244= .struct:=by kernel_rfl
@[go_sem] theorem B8A:F3 Tryz.prog 244=some (true,2):=by kernel_rfl
@[go_sem] theorem B7s:K8 Tryz.prog 244=some [(0,false,1),(1,false,1)]:=by kernel_rfl
@[go_sem] theorem C0g:G1 Tryz.prog 244=some [.bool false,.nilsl]:=by kernel_rfl
@[go_sem] theorem C1N:A1X Tryz.prog 244=none:=by kernel_rfl
@[go_sem] theorem C0H:C6 Tryz.prog 246= .struct:=by kernel_rfl
@[go_sem] theorem B8B:F3 Tryz.prog 246=some (true,4):=by kernel_rfl
@[go_sem] theorem B7t:K8 Tryz.prog 246=some [(0,false,1),(1,true,2),(3,false,1)]:=by kernel_rfl
@[go_sem] theorem C0h:G1 Tryz.prog 246=some [.nilsl,.bool false,.nilsl,.bool false]:=by kernel_rfl
@[go_sem] theorem C1O:A1X Tryz.prog 246=none:=by kernel_rfl
@[go_sem] theorem C0I:C6 Tryz.prog 302= .slice:=by kernel_rfl
@[go_sem] theorem C0Q:G3 Tryz.prog 302=some (216,1,24):=by kernel_rfl
theorem A5:Tryz.prog.follows .mixedOrders=true:=by kernel_rfl
end Go.Proofs
namespace Go.Av
section
variable {P:Program} {E:Env} {H:Heap} {K:Env→Heap→Prop} {l:List Oper} {KD:D→Heap→Prop} {ev:Operand→D} {cs:Nat→CR} {bs:Nat→Bl} {bl:Bl} {c:CR} {gs:List (Option Nat)}
def pK(P:Program)(gs:List (Option Nat))(cs:Nat→CR)(bs:Nat→Bl)(K:Env→Heap→Prop)(i:Nat)(l:List Oper)(dst:Option Nat)(E:Env):D→Heap→Prop:=fun d H=>wpP P gs cs bs K i l (E.put dst d) H
def pOp(P:Program)(c:CR)(bl:Bl)(ev:Operand→D)(H:Heap)(KD:D→Heap→Prop)(op:Op):Prop:=
 ∃e,j5 P c bl.l ev H op=some e∧A5e bl H e∧N9 P c bl.l ev H op∧∀b,e.okH b H→KD (e.val b) (e.app b H)
def A0V(P:Program)(gs:List (Option Nat))(cs:Nat→CR)(bs:Nat→Bl)(K:Env→Heap→Prop)(i:Nat)(l:List Oper)(dst:Option Nat)(op:Op)(s:Nat)(d:D)(want:Bool)(E:Env)(H:Heap):Prop:=
 (d= .tuple []∧wpP P gs cs bs K (i+1) l (E.put dst (.tuple [])) H)∨
 ∃b,d= .bool b∧(b=want→pOp P (cs i) (bs i) (Env.ev ((s,.bool want)::E)) H (pK P gs cs bs K (i+1) l dst ((s,.bool want)::E)) op)∧(b= !want→wpP P gs cs bs K (i+1) l (Env.put ((s,.bool (!want))::E) dst (.tuple [])) H)
def A79(P:Program)(gs:List (Option Nat))(cs:Nat→CR)(bs:Nat→Bl)(K:Env→Heap→Prop)(i:Nat)(l:List Oper)(dst:Option Nat)(op:Op)(s:Option Nat)(want:Bool)(E:Env)(H:Heap):Prop:=match s with
 |none=>wpP P gs cs bs K (i+1) l (E.put dst (.tuple [])) H
 |some s=>A0V P gs cs bs K i l dst op s (E.get s) want E H
@[go_sem] theorem C9E(i:Nat):wpP P gs cs bs K i [] E H=K E H:=rfl
@[go_sem] theorem C78(i:Nat)(dst:Option Nat)(op:Op)(ty:Nat)(pos:String)(after:Array Edge):wpP P gs cs bs K i (⟨dst,op,ty,pos,after,none⟩::l) E H=pOp P (cs i) (bs i) (Env.ev E) H (pK P gs cs bs K (i+1) l dst E) op:=rfl
@[go_sem] theorem C7D(i:Nat)(dst:Option Nat)(op:Op)(ty:Nat)(pos:String)(after:Array Edge)(j:Nat)(d:Bool):
  wpP P gs cs bs K i (⟨dst,op,ty,pos,after,some (j,d)⟩::l) E H=A79 P gs cs bs K i l dst op (H6 gs j) d E H:=by
 rw[wpP];simp only[];unfold A1h A79;cases H6 gs j<;>rfl
@[go_sem] theorem B8d(i:Nat)(dst:Option Nat)(op:Op)(s:Nat)(d:Bool):A79 P gs cs bs K i l dst op (some s) d E H=A0V P gs cs bs K i l dst op s (E.get s) d E H:=rfl
theorem Y9(i:Nat)(dst:Option Nat)(op:Op)(s:Nat)(b d:Bool):A0V P gs cs bs K i l dst op s (.bool b) d E H=
  ((b=d→pOp P (cs i) (bs i) (Env.ev ((s,.bool d)::E)) H (pK P gs cs bs K (i+1) l dst ((s,.bool d)::E)) op)∧(b= !d→wpP P gs cs bs K (i+1) l (Env.put ((s,.bool (!d))::E) dst (.tuple [])) H)):=by
 unfold A0V;apply propext;constructor
 ·rintro(⟨h,_⟩|⟨e,h,h1⟩)
  ·cases h
  ·cases h;exact h1
 ·exact fun h=>.inr ⟨b,rfl,h⟩
attribute [go_sem low] Y9
@[go_sem high] theorem C01(i:Nat)(dst:Option Nat)(op:Op)(s:Nat)(d:Bool):A0V P gs cs bs K i l dst op s (.tuple []) d E H=wpP P gs cs bs K (i+1) l (E.put dst (.tuple [])) H:=by
 unfold A0V;apply propext;constructor
 ·rintro(⟨_,h⟩|⟨e,h,_⟩)
  ·exact h
  ·cases h
 ·exact fun h=>.inl ⟨rfl,h⟩
@[go_sem high] theorem C4o(i:Nat)(dst:Option Nat)(op:Op)(s:Nat):A0V P gs cs bs K i l dst op s (.bool true) true E H=pOp P (cs i) (bs i) (Env.ev ((s,.bool true)::E)) H (pK P gs cs bs K (i+1) l dst ((s,.bool true)::E)) op:=by rw[Y9];simp
@[go_sem high] theorem C4p(i:Nat)(dst:Option Nat)(op:Op)(s:Nat):A0V P gs cs bs K i l dst op s (.bool false) false E H=pOp P (cs i) (bs i) (Env.ev ((s,.bool false)::E)) H (pK P gs cs bs K (i+1) l dst ((s,.bool false)::E)) op:=by rw[Y9];simp
@[go_sem high] theorem C4q(i:Nat)(dst:Option Nat)(op:Op)(s:Nat):A0V P gs cs bs K i l dst op s (.bool true) false E H=wpP P gs cs bs K (i+1) l (Env.put ((s,.bool true)::E) dst (.tuple [])) H:=by rw[Y9];simp
@[go_sem high] theorem C4r(i:Nat)(dst:Option Nat)(op:Op)(s:Nat):A0V P gs cs bs K i l dst op s (.bool false) true E H=wpP P gs cs bs K (i+1) l (Env.put ((s,.bool false)::E) dst (.tuple [])) H:=by rw[Y9];simp
@[go_sem] theorem C79(i:Nat)(dst:Option Nat)(d:D):pK P gs cs bs K i l dst E d H=wpP P gs cs bs K i l (E.put dst d) H:=rfl
theorem A0W{op:Op}(hc:I5 P op= .pure)(hw:C8 P ev H KD op=Q8 (K2 P ev op) KD H):pOp P c bl ev H KD op=C8 P ev H KD op:=by
 rw[hw];apply propext;unfold pOp;rw[S7 hc];constructor
 ·rintro⟨e,he,_,_,hk⟩;obtain⟨d,g,rfl⟩:=C9y.1 he;have:=hk 0 trivial;refine⟨d,g,?_⟩;have e2:(val d []).app 0 H=H:=F4 H;rw[e2]at this;exact this
 ·rintro⟨d,g,hk⟩;refine⟨val d [],by rw[g];rfl,⟨by simp[val],by simp[val],by simp[val],by simp[val]⟩,?_,fun b _=>?_⟩
  ·cases op<;>try trivial
   rename_i h;obtain⟨callee,args,i⟩:=h;cases callee with
   |value f=>simp[I5]at hc
   |_=>trivial
  ·have e2:(val d []).app b H=H:=F4 H;rw[e2];exact hk
@[go_sem] theorem C8A(x:Operand):pOp P c bl ev H KD (.move x)=C8 P ev H KD (.move x):=A0W rfl rfl
@[go_sem] theorem C51(x:Operand):pOp P c bl ev H KD (.assign x)=C8 P ev H KD (.assign x):=A0W rfl rfl
@[go_sem] theorem C8B(x y z:Operand):pOp P c bl ev H KD (.pick x y z)=C8 P ev H KD (.pick x y z):=A0W rfl rfl
@[go_sem] theorem C7E(t:Nat)(ps:Array (Nat×Operand)):pOp P c bl ev H KD (.build t ps)=C8 P ev H KD (.build t ps):=A0W rfl rfl
@[go_sem] theorem C7F(x:Operand):pOp P c bl ev H KD (.nilCheck x)=C8 P ev H KD (.nilCheck x):=A0W rfl rfl
@[go_sem] theorem C9F(op:BinOp)(t:Nat)(x y:Operand)(d:Nat):pOp P c bl ev H KD (.binOp op t x y d)=C8 P ev H KD (.binOp op t x y d):=A0W rfl rfl
@[go_sem] theorem C9Z(op:UnOp)(t:Nat)(x:Operand):pOp P c bl ev H KD (.unOp op t x)=C8 P ev H KD (.unOp op t x):=A0W rfl rfl
@[go_sem] theorem C9a(t:Nat)(x:Operand)(f:Nat):pOp P c bl ev H KD (.fieldAddr t x f)=C8 P ev H KD (.fieldAddr t x f):=A0W rfl rfl
@[go_sem] theorem C9b(t:Nat)(x i:Operand):pOp P c bl ev H KD (.indexAddr t x i)=C8 P ev H KD (.indexAddr t x i):=A0W rfl rfl
@[go_sem] theorem C9G(x:Operand)(t:Nat)(h:C6 P t≠ .map):pOp P c bl ev H KD (.call ⟨.builtin .len,#[x],#[t]⟩)=C8 P ev H KD (.call ⟨.builtin .len,#[x],#[t]⟩):=by
 have hc:I5 P (.call ⟨.builtin .len,#[x],#[t]⟩)= .pure:=by
  unfold C6 at h;cases d:P.underlying t with
  |none=>simp[I5,d]
  |some u=>cases u<;>simp[I5,d]<;>simp[d]at h
 refine A0W hc ?_;simp only[C8,hc];rfl
def B5U(bl:Bl)(H:Heap)(l:List Nat):Prop:=∀b∈l,(b∈bl.l∧H b≠none)∧b∉bl.no
@[go_sem] theorem C52:B5U bl H []=True:=by simp[B5U]
@[go_sem high] theorem C53(l m:List Nat)(b:Nat):B5U ⟨l,[],m⟩ H [b]=(b∈l∧H b≠none):=by simp[B5U]
@[go_sem] theorem C7G(b o:Nat):rdB (.box b o)= [b]:=rfl
@[go_sem] theorem C8C(b s i o:Nat):rdB (.el b s i o)= [b]:=rfl
@[go_sem] theorem C8D(cs:List D):rdB (.ro cs)= []:=rfl
@[go_sem] theorem C8E(t:Nat)(x:Operand):pOp P c bl ev H KD (.load t x)=(B5U bl H (rdB (ev x))∧C8 P ev H KD (.load t x)):=by
 apply propext;unfold pOp;constructor
 ·rintro⟨e,he,g,_,hk⟩;rw[I0 (by simp[I5])]at he;simp only[H8,C9y]at he;obtain⟨d,h,rfl⟩:=he;have:=hk 0 trivial;have e2:(val d (rdB (ev x))).app 0 H=H:=F4 H;rw[e2]at this;exact⟨g.rd,d,h,this⟩
 ·rintro⟨hr,d,h,hk⟩;refine⟨val d (rdB (ev x)),by rw[I0 (by simp[I5])];simp only[H8,h,Option.map_some],⟨hr,by simp[val],by simp[val],by simp[val]⟩,trivial,fun b _=>?_⟩;have e2:(val d (rdB (ev x))).app b H=H:=F4 H;rw[e2];exact hk
theorem B1N{op:Op}{f:Nat→D}{o:Obj}(ho:o.rw=true)(hr:j5 P c bl.l ev H op=some (A0i f o))(hc:N9 P c bl.l ev H op)(h: ∀b,H b=none→KD (f b) (H.set b o)):pOp P c bl ev H KD op:=
 ⟨_,hr,⟨by simp[A0i],by simp[A0i],fun o' e=>by cases e;exact ho,by simp[A0i]⟩,hc,fun b hb=>by
  have d:H b=none:=by rcases hb with hb|hb;exact hb;simp[A0i]at hb
  have e2:(A0i f o).app b H=H.set b o:=by show (H.minus []).set b o=_;rw[F4]
  rw[e2];exact h b d⟩
theorem A2o{op:Op}{f:Nat→D}{o:Obj}(hr:j5 P c bl.l ev H op=some (A0i f o))(h:pOp P c bl ev H KD op): ∀b,H b=none→KD (f b) (H.set b o):=by
 obtain⟨e,he,d,_,hk⟩:=h;rw[hr]at he;cases he;intro b hb;have:=hk b (.inl hb);have e2:(A0i f o).app b H=H.set b o:=by show (H.minus []).set b o=_;rw[F4]
 rw[e2]at this;exact this
@[go_sem] theorem C7H(t:Nat):pOp P c bl ev H KD (.alloc t)=C8 P ev H KD (.alloc t):=by
 apply propext;constructor
 ·intro h;have g:=h;obtain⟨e,he,_⟩:=g;rw[I0 (by simp[I5])]at he;simp only[H8,C9y]at he;obtain⟨z,d,rfl⟩:=he;exact⟨z,d,A2o (f:=fun b=>.box b 0) (o:=.box z (A1X P t)) (by rw[I0 (by simp[I5])];simp only[H8,d,Option.map_some]) h⟩
 ·rintro⟨z,d,hk⟩;exact B1N (f:=fun b=>.box b 0) (o:=.box z (A1X P t)) rfl (by rw[I0 (by simp[I5])];simp only[H8,d,Option.map_some]) trivial hk
@[go_sem] theorem B8e(t n:Nat)(ps:Array (Nat×Operand)):pOp P c bl ev H KD (.buildSlice t n ps)=C8 P ev H KD (.buildSlice t n ps):=by
 apply propext;constructor
 ·intro h;have q:=h;obtain⟨e,he,_⟩:=q;rw[I0 (by simp[I5])]at he;simp only[H8,bsE]at he;obtain⟨⟨e',sz,g⟩,i,he⟩:=C91.1 he;split at he
  ·rename_i h1;obtain⟨z,j,he⟩:=C91.1 he;split at he
   ·rename_i m;obtain⟨es,d,rfl⟩:=C9y.1 he;exact⟨e',sz,g,z,es,i,h1.1,h1.2,j,m,d,A2o (f:=fun b=>.vec b sz 0 n) (o:=.vec sz es) (by rw[I0 (by simp[I5])];simp only[H8,bsE,i,D0J];rw[if_pos h1,j,D0J,if_pos m];simp only[d,Option.map_some]) h⟩
   ·cases he
  ·cases he
 ·rintro⟨e',sz,g,z,es,i,h1,p,j,m,d,hk⟩;exact B1N (f:=fun b=>.vec b sz 0 n) (o:=.vec sz es) rfl (by rw[I0 (by simp[I5])];simp only[H8,bsE,i,D0J];rw[if_pos ⟨h1,p⟩,j,D0J,if_pos m];simp only[d,Option.map_some]) trivial hk
@[go_sem] theorem C02(t:Nat)(l c':Operand):pOp P c bl ev H KD (.makeSlice t l c')=C8 P ev H KD (.makeSlice t l c'):=by
 apply propext;constructor
 ·intro h;have A:=h;obtain⟨e,he,_⟩:=A;rw[I0 (by simp[I5])]at he;simp only[H8]at he;obtain⟨e',sz,g,z,k,n,y,m,h1,i,j,p,h5,q,r,u,x,d,rfl⟩:=A45 he;exact⟨e',sz,g,z,k,n,y,m,h1,i,j,p,h5,q,r,u,x,d,A2o (f:=fun b=>.vec b sz 0 n.toNat) (o:=.vec sz (List.replicate n.toNat z)) (by rw[I0 (by simp[I5])];exact he) h⟩
 ·rintro⟨e',sz,g,z,k,n,y,m,h1,i,j,p,h5,q,r,u,x,d,hk⟩;exact B1N (f:=fun b=>.vec b sz 0 n.toNat) (o:=.vec sz (List.replicate n.toNat z)) rfl (by rw[I0 (by simp[I5])];simp only[H8];rw[h5,q];exact C1m h1 i j p r u x d) trivial hk
def C2T:D→Prop
 | .box _ _| .el _ _ _ _=>True
 |_=>False
@[go_sem] theorem C54(b o:Nat):C2T (.box b o)=True:=rfl
@[go_sem] theorem C7I(b s i o:Nat):C2T (.el b s i o)=True:=rfl
@[go_sem] theorem C7J(t:Nat)(a x:Operand):pOp P c bl ev H KD (.store t a x)=(C2T (ev a)∧C8 P ev H KD (.store t a x)):=by
 apply propext;have g:j5 P c bl.l ev H (.store t a x)=j4 P t (ev a) (ev x) H:=by rw[I0 (by simp[I5])];rfl
 constructor
 ·rintro⟨e,he,y,_,hk⟩;rw[g]at he;unfold j4 at he;obtain⟨p,hs,he⟩:=C91.1 he;have fin: ∀b,rdB (ev a)= [b]→(p b).map (fun o=>(⟨[],[b],some o,some b,fun _=>.undef⟩:Ef))=some e→C8 P ev H KD (.store t a x):=by
   intro b hb h1;obtain⟨o,ho,rfl⟩:=C9y.1 h1;obtain⟨o',q,_,j,_⟩:=A0k hs hb;rw[ho]at q;cases q;have:=hk b rfl;have e2:((⟨[],[b],some o,some b,fun _=>.undef⟩:Ef)).app b H=p:=by show (H.minus [b]).set b o=_;rw[Y1,j]
   rw[e2]at this;exact⟨p,hs,this⟩
  cases d:ev a with
  |box b off=>rw[d]at he;exact⟨trivial,fin b (by rw[d];rfl) he⟩
  |el b s i off=>rw[d]at he;exact⟨trivial,fin b (by rw[d];rfl) he⟩
  |_=>rw[d]at he;simp at he
 ·rintro⟨h1,p,hs,hk⟩;have fin: ∀b,rdB (ev a)= [b]→j4 P t (ev a) (ev x) H=(p b).map (fun o=>(⟨[],[b],some o,some b,fun _=>.undef⟩:Ef))→pOp P c bl ev H KD (.store t a x):=by
   intro b hb hst;obtain⟨o,ho,u,j,r⟩:=A0k hs hb;rw[ho,Option.map_some]at hst;refine⟨_,g.trans hst,⟨by simp,fun k hk=>?_,fun o' z=>by cases z;exact u,fun k hk=>by cases hk;simp⟩,trivial,fun k m=>?_⟩
   ·simp at hk;subst hk;exact⟨(fun h=>absurd h (by simp)),r⟩
   ·have m:k=b:=m;subst m;show KD .undef ((H.minus [k]).set k o);rw[Y1,←j];exact hk
  cases d:ev a with
  |box b off=>exact fin b (by rw[d];rfl) (by rw[d]at hs⊢;simp only[j4,hs,D0J])
  |el b s i off=>exact fin b (by rw[d];rfl) (by rw[d]at hs⊢;simp only[j4,hs,D0J])
  |_=>rw[d]at h1;exact h1.elim
def xOk(bl:Bl)(H:Heap)(l:List Nat):Prop:=(∀b∈inB bl.l l,H b≠none∧b∉bl.no)∧∀b∈R3 bl.l l,B09 (H b)=true
def C2U(bl:Bl)(b:Nat):Prop:=b∉bl.l∨b∈bl.may
def paV(o:Option Obj)(bl:Bl)(xl:List Nat)(b sz n by_:Nat)(xs:List (List D))(H:Heap)(KD:D→Heap→Prop):Prop:=match o with
 |some (.vec sz' es)=>sz'=sz∧n≤es.length∧(n+xs.length)*by_≤140737488355328∧n+xs.length≤9223372036854775807∧C2U bl b∧xOk bl H xl∧
   ∀b',(H b'=none∨b'∈b::R3 bl.l xl)→KD (.vec b' sz 0 (n+xs.length)) ((H.minus (b::R3 bl.l xl)).set b' (.vec sz (es.take n++xs)))
 |_=>False
@[go_sem] theorem B8f(bl:Bl)(e:List Nat)(b sz sz' n d:Nat)(es xs:List (List D)):paV (some (.vec sz' es)) bl e b sz n d xs H KD=(sz'=sz∧n≤es.length∧(n+xs.length)*d≤140737488355328∧n+xs.length≤9223372036854775807∧C2U bl b∧xOk bl H e∧
      ∀g,(H g=none∨g∈b::R3 bl.l e)→KD (.vec g sz 0 (n+xs.length)) ((H.minus (b::R3 bl.l e)).set g (.vec sz (es.take n++xs)))):=rfl
def paS(s:D)(bl:Bl)(xl:List Nat)(sz by_:Nat)(xs:List (List D))(H:Heap)(KD:D→Heap→Prop):Prop:=match s with
 | .nilsl=>xs.length*by_≤140737488355328∧xs.length≤9223372036854775807∧xs.isEmpty=false∧xOk bl H xl∧∀b,(H b=none∨b∈R3 bl.l xl)→KD (.vec b sz 0 xs.length) ((H.minus (R3 bl.l xl)).set b (.vec sz xs))
 | .vec b sz' lo n=>sz'=sz∧lo=0∧paV (H b) bl xl b sz n by_ xs H KD
 |_=>False
@[go_sem] theorem B8g(bl:Bl)(e:List Nat)(sz d:Nat)(xs:List (List D)):paS .nilsl bl e sz d xs H KD=(xs.length*d≤140737488355328∧xs.length≤9223372036854775807∧xs.isEmpty=false∧xOk bl H e∧∀b,(H b=none∨b∈R3 bl.l e)→KD (.vec b sz 0 xs.length) ((H.minus (R3 bl.l e)).set b (.vec sz xs))):=rfl
@[go_sem] theorem B8h(bl:Bl)(e:List Nat)(b sz sz' lo n d:Nat)(xs:List (List D)):paS (.vec b sz' lo n) bl e sz d xs H KD=(sz'=sz∧lo=0∧paV (H b) bl e b sz n d xs H KD):=rfl
def paX(o:Option (List (List D)))(s x:D)(bl:Bl)(sz by_:Nat)(H:Heap)(KD:D→Heap→Prop):Prop:=match o with
 |some xs=>paS s bl (S6 x) sz by_ xs H KD
 |none=>False
@[go_sem] theorem B5W(xs:List (List D))(s x:D)(sz d:Nat):paX (some xs) s x bl sz d H KD=paS s bl (S6 x) sz d xs H KD:=rfl
def paK(P:Program)(et:Option (Nat×Nat×Nat))(bt:Q0)(s x:D)(bl:Bl)(H:Heap)(KD:D→Heap→Prop):Prop:=match et with
 |some (e,sz,by_)=>0<sz∧apT bt∧apZ (G1 P e) sz∧paX (M3 H sz x) s x bl sz by_ H KD
 |none=>False
@[go_sem] theorem B5X(e sz d:Nat)(g:Q0)(s x:D):paK P (some (e,sz,d)) g s x bl H KD=(0<sz∧apT g∧apZ (G1 P e) sz∧paX (M3 H sz x) s x bl sz d H KD):=rfl
@[go_sem] theorem C55(b sz lo n:Nat):S6 (.vec b sz lo n)= [b]:=rfl
@[go_sem] theorem C7M(sz:Nat)(es:List (List D)):S6 (.sl sz es)= []:=rfl
@[go_sem] theorem C56(s:ByteArray):S6 (.str s)= []:=rfl
@[go_sem] theorem C57(k:IntKind)(n:Int):S6 (.int k n)= []:=rfl
@[go_sem] theorem C4s(b:Bool):S6 (.bool b)= []:=rfl
@[go_sem] theorem C58(cs:List D):S6 (.agg cs)= []:=rfl
@[go_sem] theorem C59(b o:Nat):S6 (.box b o)= [b]:=rfl
@[go_sem] theorem w9(bl:List Nat):R3 bl []= []:=rfl
theorem A9i{bl:List Nat}(b:Nat)(l:List Nat)(h:b∉bl):R3 bl (b::l)=b::R3 bl l:=by simp[R3,h]
theorem B8i{bl:List Nat}(b:Nat)(l:List Nat)(h:b∈bl):R3 bl (b::l)=R3 bl l:=by simp[R3,h]
@[go_sem] theorem B2W:xOk bl H []=True:=by simp[xOk,inB,R3]
theorem B2X(b:Nat)(o:Obj)(hb:H b=some o)(hr:o.rw=true)(e:b∉bl.l∨b∉bl.no):xOk bl H [b]:=by
 refine⟨fun k hk=>?_,fun k hk=>?_⟩
 ·have d:=j6.1 hk;have:=d.1;simp at this;subst this;exact⟨by rw[hb];simp,e.resolve_left fun g=>g d.2⟩
 ·have:=(R4.1 hk).1;simp at this;subst this;rw[hb];exact hr
theorem A1E(b:Nat)(l:List Nat):H.minus (b::l)=(H.del b).minus l:=by
 funext k;unfold Heap.minus Heap.del
 by_cases h1:k=b<;>by_cases d:k∈l<;>simp[h1,d]
theorem A9j{s x:Operand}{t p:Nat}(h:paK P (G3 P t) (C6 P p) (ev s) (ev x) bl H KD):pOp P c bl ev H KD (.call ⟨.builtin .append,#[s,x],#[t,p]⟩):=by
 have j:j5 P c bl.l ev H (.call ⟨.builtin .append,#[s,x],#[t,p]⟩)=B1A P bl.l H t p (ev s) (ev x):=by rw[I0 (by simp[I5])];rfl
 unfold paK at h;split at h
 ·rename_i e sz T U;obtain⟨h1,V,q,i⟩:=h;have u:(G1 P e).map (·.length)=some sz:=by
   unfold apZ at q;split at q
   ·rename_i z W;rw[W];simp[q]
   ·exact q.elim
  unfold paX at i;split at i
  ·rename_i xs y;have d:=j;unfold B1A at d;rw[U,D0J,if_pos ⟨h1,V,u⟩,y,D0J]at d;have m: ∀(del:List Nat) (new:Option Obj) (f:Nat→D),xOk bl H (S6 (ev x))→(∀b∈del,C2U bl b∧B09 (H b)=true)→(∀o,new=some o→o.rw=true)→A5e bl H ⟨inB bl.l (S6 (ev x)),del,new,none,f⟩:=fun del new f hx L hn=>
    ⟨fun b hb=>⟨⟨(j6.1 hb).2,(hx.1 b hb).1⟩,(hx.1 b hb).2⟩,fun b hb=>⟨fun _=>(L b hb).1,(L b hb).2⟩,hn,fun b hb=>by cases hb⟩
   unfold paS at i;split at i
   ·rename_i hs;obtain⟨A,C,G,r,I⟩:=i;rw[hs]at d;simp only at d;rw[if_pos ⟨A,C,G⟩]at d;exact⟨_,d,m _ _ _ r (fun b hb=>⟨.inl (R4.1 hb).2,r.2 b hb⟩) (fun o ho=>by cases ho;rfl),trivial,fun b hb=>I b hb⟩
   ·rename_i b sz' lo n hs;obtain⟨A,C,h5⟩:=i;unfold paV at h5;split at h5
    ·rename_i M es hb;obtain⟨G,r,I,X,Y,O,k9⟩:=h5;rw[hs]at d;simp only[hb]at d;rw[if_pos ⟨A,G,C,r,I,X⟩]at d;refine⟨_,d,m _ _ _ O (fun J g=>?_) (fun o ho=>by cases ho;rfl),trivial,fun J g=>k9 J g⟩;rcases D0H.1 g with rfl|g
     ·exact⟨Y,by rw[hb];rfl⟩
     ·exact⟨.inl (R4.1 g).2,O.2 J g⟩
    ·exact h5.elim
   ·exact i.elim
  ·exact i.elim
 ·exact h.elim
def A6d:List D→List Nat:=fun l=>l.flatMap S6
@[go_sem] theorem C6A:A6d []= []:=rfl
theorem B3l(d:D)(l:List D):A6d (d::l)=S6 d++A6d l:=by simp[A6d]
attribute [go_sem] B3l
def crK(c:CR)(H:Heap)(l:List Nat)(KD:D→Heap→Prop):Prop:=match c.new with
 |none=>KD (c.val 0) (H.minus l)
 |some o=>o.rw=true∧∀b,(H b=none∨b∈l)→KD (c.val b) ((H.minus l).set b o)
def pcA(P:Program)(c:CR)(bl:Bl)(f:D)(args:List D)(H:Heap)(KD:D→Heap→Prop):Prop:=match f with
 | .fn (.func g) first cap=>(∀b∈inB bl.l (A6d (first++args++cap)),H b≠none∧b∉bl.no)∧(∀b∈R3 bl.l (A6d (first++args++cap)),B09 (H b)=true)∧
   B41 P g (first++args++cap) H (A6d (first++args++cap)) (R3 bl.l (A6d (first++args++cap))) c∧crK c H (R3 bl.l (A6d (first++args++cap))) KD
 |_=>False
def pcB(P:Program)(c:CR)(bl:Bl)(g:Nat)(as_:List D)(l:List Nat)(H:Heap)(KD:D→Heap→Prop):Prop:=xOk bl H l∧B41 P g as_ H l (R3 bl.l l) c∧crK c H (R3 bl.l l) KD
@[go_sem] theorem C8G(g:Nat)(first args cap:List D):pcA P c bl (.fn (.func g) first cap) args H KD=pcB P c bl g (first++args++cap) (A6d (first++args++cap)) H KD:=by
 unfold pcA pcB xOk;simp only[and_assoc]
@[go_sem] theorem C8H(f:Operand)(args:List Operand)(m:Array Nat):pOp P c bl ev H KD (.call ⟨.value f,args.toArray,m⟩)=pcA P c bl (ev f) (args.map ev) H KD:=by
 have i:j5 P c bl.l ev H (.call ⟨.value f,args.toArray,m⟩)=H8 P c bl.l ev H (.call ⟨.value f,args.toArray,m⟩):=I0 (by simp[I5]);apply propext;unfold pcA;constructor
 ·rintro⟨e,he,d,hc,hk⟩;rw[i]at he;simp only[H8]at he;simp only[N9]at hc;split at he
  ·rename_i g first cap hf
   cases he
   (first|rw[hf]at hc⊢ |rw[hf]at hc)
   refine⟨fun b hb=>⟨(d.rd b hb).1.2,(d.rd b hb).2⟩,fun b hb=>(d.del b hb).2,hc,?_⟩;unfold crK;unfold Ef.okH Ef.app at hk;cases hn:c.new with
   |none=>simp only[hn,CR.f]at hk⊢;exact hk 0 trivial
   |some o=>
    simp only[hn,CR.f]at hk⊢;exact⟨d.new o hn,fun b hb=>hk b hb⟩
  ·cases he
 ·intro h;split at h
  ·rename_i g first cap hf
   obtain⟨h1,p,q,j⟩:=h;refine⟨⟨inB bl.l ((first++args.map ev++cap).flatMap S6),R3 bl.l ((first++args.map ev++cap).flatMap S6),c.new,none,c.f⟩,?_,⟨fun b hb=>⟨⟨(j6.1 hb).2,(h1 b hb).1⟩,(h1 b hb).2⟩,fun b hb=>⟨fun _=>.inl (R4.1 hb).2,p b hb⟩,fun o ho=>?_,by simp⟩,?_,fun b hb=>?_⟩
   ·rw[i];simp only[H8,hf]
   ·unfold crK at j;simp only at ho;rw[ho]at j;exact j.1
   ·simp only[N9,hf];exact q
   ·unfold crK at j;unfold Ef.okH at hb;unfold Ef.app;cases hn:c.new with
    |none=>simp only[hn,CR.f]at j⊢;exact j
    |some o=>
     simp only[hn,CR.f]at j hb⊢;exact j.2 b hb
  ·exact h.elim
theorem R0{g:Nat}{d:List D}{c:D}(h: ∀(H':Heap) (Q:D→Heap→Prop),(∀k cs,H k=some (.ro cs)→H' k=some (.ro cs))→Q c H'→ACalls P g d H' Q)(hk:KD c H):pcB P (.c c) bl g d [] H KD:=
 ⟨by rw[B2W];trivial,fun H' hro _=>h H' _ hro ⟨rfl,by rw[w9,F4];exact D1G H'⟩,by rw[w9];show KD c (H.minus []);rw[F4];exact hk⟩
theorem pc1{g b:Nat}{d:List D}{c:D}{o:Obj}(hb:H b=some o)(hr:o.rw=true)(hn:b∉bl.l)(h: ∀(H':Heap) (Q:D→Heap→Prop),(∀k cs,H k=some (.ro cs)→H' k=some (.ro cs))→H' b=some o→Q c (H'.del b)→ACalls P g d H' Q)(hk:KD c (H.del b)):pcB P (.c c) bl g d [b] H KD:=by
 have e:R3 bl.l [b]= [b]:=by rw[A9i b [] hn,w9]
 have e2: ∀H:Heap,H.minus [b]=H.del b:=fun H=>by rw[A1E,F4]
 exact⟨B2X b o hb hr (.inl hn),fun H' hro i=>h H' _ hro (by rw[i b (by simp),hb]) ⟨rfl,by rw[e,e2];exact D1G _⟩,by rw[e];show KD c (H.minus [b]);rw[e2];exact hk⟩
theorem pcm{g:Nat}{d:List D}{f:Nat→D}{o:Obj}(ho:o.rw=true)(h: ∀(H':Heap) (Q:D→Heap→Prop),(∀k cs,H k=some (.ro cs)→H' k=some (.ro cs))→(∀b,H' b=none→Q (f b) (H'.set b o))→ACalls P g d H' Q)(hk: ∀b,H b=none→KD (f b) (H.set b o)):pcB P (.mk' f o) bl g d [] H KD:=by
 refine⟨by rw[B2W];trivial,fun H' hro _=>h H' _ hro fun b hb=>?_,?_⟩
 ·exact⟨b,.inl hb,rfl,by rw[w9,F4];exact D1G _⟩
 ·rw[w9];refine⟨ho,fun b hb=>?_⟩;rw[F4];exact hk b (hb.resolve_right (by simp))
theorem C2W{bl:List Nat}(b:Nat)(h:b∈bl):inB bl [b]= [b]:=by simp[inB,h]
theorem C8I{g b:Nat}{d:List D}{f:Nat→D}{o o':Obj}(hb:H b=some o)(hl:b∈bl.l)(hn:b∉bl.no)(ho:o'.rw=true)(h: ∀(H':Heap) (Q:D→Heap→Prop),(∀k cs,H k=some (.ro cs)→H' k=some (.ro cs))→H' b=some o→(∀v,H' v=none→Q (f v) (H'.set v o'))→ACalls P g d H' Q)(hk: ∀v,H v=none→KD (f v) (H.set v o')):pcB P (.mk' f o') bl g d [b] H KD:=by
 have e:R3 bl.l [b]= []:=by rw[B8i b [] hl,w9]
 refine⟨⟨fun k hk=>?_,fun k hk=>?_⟩,fun H' hro i=>h H' _ hro (by rw[i b (by simp),hb]) fun v hv=>?_,?_⟩
 ·rw[C2W b hl]at hk;simp at hk;subst hk;exact⟨by rw[hb];simp,hn⟩
 ·rw[e]at hk;cases hk
 ·exact⟨v,.inl hv,rfl,by rw[e,F4];exact D1G _⟩
 ·rw[e];refine⟨ho,fun v hv=>?_⟩;rw[F4];exact hk v (hv.resolve_right (by simp))
end
def J1(sz n:Nat):Option Nat→D
 |none=>.nilsl
 |some c=>.vec c sz 0 n
def K7(H:Heap):Option Nat→Heap
 |none=>H
 |some c=>H.del c
def putB(H:Heap)(sz:Nat)(es:List (List D)):Option Nat→Heap
 |none=>H
 |some c=>H.set c (.vec sz es)
def OutAt(H:Heap)(sz:Nat)(es:List (List D)):Option Nat→Prop
 |none=>es= []
 |some c=>H c=some (.vec sz es)
theorem E9{H:Heap}{b:Nat}{o:Obj}(h:H b=none):(H.set b o).del b=H:=by
 funext k
 unfold Heap.del Heap.set;by_cases hk:k=b
 ·subst hk;simp[h]
 ·simp[hk]
theorem B8j(H:Heap)(ob:Option Nat):(K7 H ob).Le H:=by
 cases ob with
 |none=>exact D1G H
 |some c=>exact D9 H c
@[go_sem] theorem C4t(sz n:Nat)(ob:Option Nat):(J1 sz n ob).cells= [J1 sz n ob]:=by cases ob<;>rfl
@[go_sem] theorem C6C(sz n:Nat):J1 sz n none= .nilsl:=rfl
@[go_sem] theorem K3(sz n c:Nat):J1 sz n (some c)= .vec c sz 0 n:=rfl
theorem B2Y{P:Program}{t sz n:Nat}{ob:Option Nat}(h:ob=none→n=0):A5M P t (J1 sz n ob)=if C6 P t= .slice then some (.int .i64 n)else none:=by
 cases ob with
 |none=>rw[h rfl];rfl
 |some c=>rfl
section
variable {P:Program} {H:Heap} {KD:D→Heap→Prop}
theorem A8A{sz d n:Nat}{ob:Option Nat}(es:List (List D)){xs:List (List D)}(g:xs≠[])(hn:n=es.length)(hc:OutAt H sz es ob)(h1:(n+xs.length)*d≤140737488355328)(i:n+xs.length≤9223372036854775807)
  (h: ∀b',K7 H ob b'=none→KD (.vec b' sz 0 (n+xs.length)) ((K7 H ob).set b' (.vec sz (es++xs)))):apS (J1 sz n ob) sz d xs H KD:=by
 cases ob with
 |none=>
  have e:es= []:=hc;subst e;subst hn;simp only[C9w,Nat.zero_add,D01,K7]at h1 i h;exact⟨h1,i,fun e=>absurd e g,fun _ b hb=>h b hb⟩
 |some c=>
  have e:H c=some (.vec sz es):=hc;subst hn;refine⟨rfl,.inl ⟨rfl,?_⟩⟩;rw[e];refine⟨rfl,C99 _,h1,i,fun b hb=>?_⟩;rw[C94 (C99 _)];exact h b hb
theorem ACalls.out{f n:Nat}{sz:Nat}{es:List (List D)}{ob:Option Nat}{ds:List D}{Q:D→Heap→Prop}(hn:n=es.length)(hc:OutAt H sz es ob)(h:ACalls P f (.sl sz es::ds) (K7 H ob) Q):ACalls P f (J1 sz n ob::ds) H Q:=by
 subst hn;cases ob with
 |none=>
  have e:es= []:=hc;subst e;refine ACalls.shift (args':=.sl sz []::ds) (fun w vs h1 g m=>⟨by simpa using h1,fun i d j=>?_,m,fun _ hn=>hn⟩) h;cases i with
  |zero=>simp at j;subst j;exact(g 0 _ rfl).nil_sl sz
  |succ i=>exact g (i+1) d (by simpa using j)
 |some c=>
  refine ACalls.freeze (args':=.sl sz es::ds) hc (by simp) (fun i d d' h1 g=>?_) h;cases i with
  |zero=>simp[J1]at h1 g;subst h1;subst g;exact .all
  |succ i=>simp at h1 g;rw[h1]at g;cases g;exact .same _
theorem T5{f b n sz:Nat}{es:List (List D)}{ds:List D}{Q:D→Heap→Prop}(hb:H b=some (.vec sz es))(hn:n=es.length)(h:ACalls P f (.sl sz es::ds) (H.del b) Q):ACalls P f (.vec b sz 0 n::ds) H Q:=
 ACalls.out (ob:=some b) hn hb h
theorem A0Q{f b n sz:Nat}{es:List (List D)}{a:D}{ds:List D}{Q:D→Heap→Prop}(hb:H b=some (.vec sz es))(hn:n=es.length)(h:ACalls P f (a:: .sl sz es::ds) (H.del b) Q):ACalls P f (a:: .vec b sz 0 n::ds) H Q:=by
 subst hn;refine ACalls.freeze (args':=a:: .sl sz es::ds) hb (by simp) (fun i d d' h1 e=>?_) h
 match i with
 |0=>simp at h1 e;subst h1;subst e;exact .same _
 |1=>simp at h1 e;subst h1;subst e;exact .all
 |i+2=>simp at h1 e;rw[h1]at e;cases e;exact .same _
theorem Fin.out{n sz:Nat}{es:List (List D)}{ob:Option Nat}{Q:D→Heap→Prop}(hn:n=es.length)(hc:OutAt H sz es ob)(h:Fin Q (.sl sz es) (K7 H ob)):Fin Q (J1 sz n ob) H:=by
 subst hn;cases ob with
 |none=>
  have e:es= []:=hc;subst e;unfold Fin at h⊢;obtain⟨d,e,h1,g⟩:=h;exact⟨d,e,Shift.trans (fun w v hr hs=>⟨by cases hr;exact .sl0 _ _ _,hs,fun _ hn=>hn⟩) h1,g⟩
 |some c=>exact Fin.freeze hc .all h
theorem A6Y{n sz:Nat}{es:List (List D)}{ob:Option Nat}{ds:List D}{Q:D→Heap→Prop}(hn:n=es.length)(hc:OutAt H sz es ob)(h:Fin Q (.tuple (.sl sz es::ds)) (K7 H ob)):Fin Q (.tuple (J1 sz n ob::ds)) H:=by
 cases ob with
 |none=>
  have e:es= []:=hc;subst e;exact Fin.nilsl sz ds h
 |some c=>exact B2B hc hn h
end
theorem B3m{H:Heap}{sz:Nat}{es:List (List D)}{ob:Option Nat}(h:ob=none→es= []):OutAt (putB H sz es ob) sz es ob:=by
 cases ob with
 |none=>exact h rfl
 |some c=>simp[OutAt,putB,Heap.set]
def Rw{α :Type}(f: α →List D)(l:List α):List (List D):=l.map f
section
variable {α :Type} {f: α →List D}
@[go_sem] theorem D6(l:List α):(Rw f l).length=l.length:=by simp[Rw]
theorem A9(l:List α)(k:Nat)(h:k<l.length):(Rw f l).getD k []=f l[k]:=by simp[Rw,h]
theorem C1(l:List α)(k:Nat)(h:k<l.length):(Rw f l)[k]? =some (f l[k]):=by simp[Rw,h]
theorem A8B(l:List α)(k:Nat):(Rw f l).take k=Rw f (l.take k):=by simp[Rw]
theorem B8k(l:List α)(k:Nat):(Rw f l).drop k=Rw f (l.drop k):=by simp[Rw]
theorem O2(l m:List α):Rw f l++Rw f m=Rw f (l++m):=by simp[Rw]
theorem A0X:Rw f []= []:=rfl
theorem X7(l:List α)(k:Nat)(x: α)(c:List D)(h:f x=c):(Rw f l).set k c=Rw f (l.set k x):=by subst h;simp[Rw,List.map_set]
theorem A5n(n:Nat)(x: α)(c:List D)(h:f x=c):List.replicate n c=Rw f (List.replicate n x):=by subst h;simp[Rw]
end
def a7(s:ByteArray):List D:=[.str s]
@[go_sem] theorem C8J(s:ByteArray):a7 s= [.str s]:=rfl
def OutIn(H:Heap)(sz:Nat)(es:List (List D))(ob:Option Nat)(Hc:Heap):Prop:=H.Le Hc∧OutAt Hc sz es ob∧∀b,ob=some b→H b=none
theorem OutIn.set{H:Heap}{sz:Nat}{es:List (List D)}{ob:Option Nat}{d:Heap}(h:OutIn H sz es ob d){b:Nat}(hb:d b=none)(o:Obj):OutIn H sz es ob (d.set b o):=by
 refine⟨h.1.trans (A0 hb),?_,h.2.2⟩;cases ob with
 |none=>exact h.2.1
 |some c=>
  have hc:d c=some (.vec sz es):=h.2.1;show (d.set b o) c=_;rw[A3 o (by rintro rfl;rw[hb]at hc;cases hc)];exact hc
theorem OutIn.le{H:Heap}{sz:Nat}{es:List (List D)}{ob:Option Nat}{d:Heap}(h:OutIn H sz es ob d):H.Le (K7 d ob):=by
 cases ob with
 |none=>exact h.1
 |some c=>
  intro k x hk;show (d.del c) k=_;rw[F0 (by rintro rfl;rw[h.2.2 _ rfl]at hk;cases hk)];exact h.1 k x hk
theorem OutIn.new{H:Heap}{sz:Nat}{es:List (List D)}{ob:Option Nat}{d:Heap}(h:OutIn H sz es ob d){b:Nat}(hb:K7 d ob b=none):H b=none:=h.le.none hb
theorem OutIn.step{H:Heap}{sz:Nat}{es:List (List D)}{ob:Option Nat}{d:Heap}(h:OutIn H sz es ob d){b:Nat}(o:Obj):(H.set b o).Le ((K7 d ob).set b o):=by
 intro k x hk;unfold Heap.set at hk⊢;split
 ·rename_i e;rw[if_pos e]at hk;exact hk
 ·rename_i e;rw[if_neg e]at hk;exact h.le k x hk
section
variable {H Hc:Heap} {KD:D→Heap→Prop} {sz by_ n:Nat} {ob:Option Nat} {es xs:List (List D)}
theorem B5Y(e:OutIn H sz es ob Hc)(g:xs≠[])(hn:n=es.length)(h1:(n+xs.length)*by_≤140737488355328)(i:n+xs.length≤9223372036854775807)
  (h: ∀b',H b'=none→K7 Hc ob b'=none→(∀o,(H.set b' o).Le ((K7 Hc ob).set b' o))→KD (.vec b' sz 0 (n+xs.length)) ((K7 Hc ob).set b' (.vec sz (es++xs)))):apS (J1 sz n ob) sz by_ xs Hc KD:=
 A8A es g hn e.2.1 h1 i fun b' d=>h b' (e.new d) d fun o=>e.step o
theorem Q3{α :Type}{f: α →List D}(l:List α)(k:Nat)(h:k<l.length):Rw f (l.take (k+1))=Rw f (l.take k)++[f l[k]]:=by
 rw[C98 h];simp only[Rw,D0p,D06,List.map_nil]
theorem Z0{α :Type}{f: α →List D}(l:List α)(k:Nat)(h:k≤l.length):(Rw f (l.take k)).length=k:=by simp[Rw];omega
end
theorem B5Z{b sz:Nat}{es:List (List D)}{E0 E:Env}(h:Av.Sub E0 E): ∀p∈E0,Fz b sz es (E.get p.1) p.2:=fun p hp=>by
 rw[h.all p hp];exact .same _
end Go.Av
namespace Go.Av
open Go.RowKit
theorem A2H{H:Heap}{w w':World}(h:Below w.heap.size w w'):Ext H w w':=
 ⟨h.os,h.tape,h.output,h.size,fun k hk _=>h.block k hk,fun k hk=>by unfold World.shape?;rw[h.block k hk]⟩
theorem A36{H:Heap}{w w':World}(hs:Sat H w)(h:Below w.heap.size w w'):Sat H w':=fun b o hb=>
 (hs b o hb).mono (A2H h) (D1M _ _) (h.block b (hs.lt hb))
theorem I4{P:Program}{f:Nat}{args:List D}{H:Heap}{Q:D→Heap→Prop}{r:D}(hb:A1c P f=true)
  (h: ∀w (vs:Array Value),args.length=vs.size→(∀(i:Nat) d,args[i]? =some d→R w H d (vs.getD i Go.undef))→Sat H w→Calls P f vs w fun e w'=>∃v,e= .returned v∧Below w.heap.size w w'∧R w' H r v)
  (hq:Q r H):ACalls P f args H Q:=
 ⟨hb,fun w vs h1 m g=>(h w vs h1 m g).mono fun e w' ⟨v,he,j,o⟩=>⟨v,he,r,H,o,A36 g j,A2H j,D1M _ _,hq⟩⟩
theorem A1m{w:World}{H:Heap}{d:D}{vs:Array Value}(hl: [d].length=vs.size)(hr: ∀(i:Nat) d',[d][i]? =some d'→R w H d' (vs.getD i Go.undef)): ∃a,vs= #[a]∧R w H d a:=by
 obtain⟨l⟩:=vs
 match l,hl with
 | [a],_=>exact⟨a,rfl,by simpa using hr 0 d rfl⟩
theorem x9{w:World}{H:Heap}{d e:D}{vs:Array Value}(hl: [d,e].length=vs.size)(hr: ∀(i:Nat) d',[d,e][i]? =some d'→R w H d' (vs.getD i Go.undef)): ∃a b,vs= #[a,b]∧R w H d a∧R w H e b:=by
 obtain⟨l⟩:=vs
 match l,hl with
 | [a,b],_=>exact⟨a,b,rfl,by simpa using hr 0 d rfl,by simpa using hr 1 e rfl⟩
def A9k(k:IntKind)(zs:List Int):List D:=zs.map (D.int k)
theorem B5a{P:Program}{w:World}{H:Heap}{name:String}{g:Nat}{k:IntKind}{j:List Int}(o:P.globalNamed name=some g)(hs:Sat H w)(h:H g=some (.ro (A9k k j))):Lib.TabIs P w name k j:=by
 obtain⟨c,T,r,h1,p,q⟩:=hs g _ h;unfold Lib.TabIs World.var?;rw[o];simp only[D0J,h1,D0R];apply Array.ext
 ·simpa [A9k]using p
 ·intro i m d;simp at d;have:=(q i (.int k j[i]) (by simp[A9k,d])).2;have e:=this.int_inv;simp[m]at e;simp[e]
theorem B1O(w:World)(k:Nat)(os:Array Go.Obj):Below w.heap.size w (Sort.grow (w.drewN k) os):=
 ⟨rfl,rfl,rfl,by simp[Sort.grow,World.drewN],fun i d=>by
  have:(w.drewN k).heap=w.heap:=rfl;simp only[Sort.grow,this];rw[Array.getElem?_append,if_pos d]⟩
theorem A9l(w:World)(e:TypeId)(s:ByteArray):Below w.heap.size w (Lib.bytesWorld w e s):=
 ⟨rfl,rfl,rfl,by rw[Lib.bytesWorld_size];omega,fun i d=>Lib.bytesWorld_at_old w e s i d⟩
end Go.Av
namespace Go.Lexs
open Go.Av
def U7(c:Int):Bool:=decide (48≤c)&&decide (c≤57)
def B2Z(c:Int):Bool:=(decide (97≤c)&&decide (c≤122))||(decide (65≤c)&&decide (c≤90))
def B2a(c:Int):Bool:=B2Z c||U7 c||decide (c=95)
def C6D(c:Int):Bool:=decide (32≤c)&&decide (c≤126)&&decide (c≠34)&&decide (c≠92)
def C2X(c:Int):Bool:=decide (c=32)||decide (c=9)||decide (c=10)||decide (c=13)
theorem A1F(c:Int):U7 c=true↔48≤c∧c≤57:=by simp[U7]
def ofB(p:Int→Bool)(c:UInt8):Bool:=p (c.toNat:Int)
def C2Y(l:List UInt8):Bool:=l.all (ofB C6D)&&decide (l.length≤200)
theorem A2Z(p:Int→Bool)(l:List UInt8)(k:Nat)(hk:k<l.length):(l.take (k+1)).all (ofB p)=((l.take k).all (ofB p)&&p (nth l k)):=by
 rw[C98 hk,D0t];simp[hk,ofB,nth]
theorem A3I(p:Int→Bool)(l:List UInt8)(k:Nat)(hk:k<l.length)(h:p (nth l k)=false):l.all (ofB p)=false:=by
 rw[List.all_eq_false];exact⟨l[k],C93 hk,by simpa [hk,ofB,nth]using h⟩
def adv(p:Int×Int)(c:UInt8):Int×Int:=if c.toNat=10 then(p.1+1,1)else(p.1,p.2+1)
def place(l:List UInt8)(i:Nat):Int×Int:=(l.take i).foldl adv (1,1)
def A8C:List UInt8→Nat
 | []=>0
 |c::r=>if c.toNat=10 then 0 else A8C r+1
def B8l(l:List UInt8):Bool:=List.isPrefixOf [47,47] l
def B5b:Nat→List UInt8→Nat
 |0,_=>0
 |_+1,[]=>0
 |n+1,c::r=>if ofB C2X c then 1+B5b n r else if B8l (c::r)then A8C (c::r)+B5b n ((c::r).drop (A8C (c::r)))else 0
def sk(l:List UInt8):Nat:=B5b l.length l
def B5c(l:List UInt8)(i:Nat):Nat:=i+sk (l.drop i)
structure Tok where
 kind:Int
 text:List UInt8
 n:Int
 deriving DecidableEq
def A3J(p:Int→Bool):List UInt8→Nat
 | []=>0
 |c::r=>if ofB p c then A3J p r+1 else 0
def C6E:List UInt8→Nat:=List.foldl (fun n c=>10*n+(c.toNat-48)) 0
def B5d(signs:List (List UInt8))(l:List UInt8):Nat:=signs.foldl (fun n s=>if n<s.length∧List.isPrefixOf s l=true then s.length else n) 0
def A5o:List UInt8→Nat
 | []=>0
 |c::r=>if c.toNat=34 then 0 else A5o r+1
def C8K(signs:List (List UInt8))(l:List UInt8):Option (Tok×Nat):=
 if B2Z (nth l 0)then(if A3J B2a l≤40 then some (⟨1,l.take (A3J B2a l),0⟩,A3J B2a l)else none)
 else if U7 (nth l 0)then
  (if C6E (l.take (A3J U7 l))≤2147483647∧¬(A3J U7 l<l.length∧B2a (nth l (A3J U7 l))=true)then some (⟨2,[],C6E (l.take (A3J U7 l))⟩,A3J U7 l)else none)
 else if nth l 0=34 then
  (if A5o (l.drop 1)<(l.drop 1).length∧C2Y ((l.drop 1).take (A5o (l.drop 1)))=true then some (⟨3,(l.drop 1).take (A5o (l.drop 1)),0⟩,A5o (l.drop 1)+2)else none)
 else if B5d signs l=0 then none else some (⟨4,l.take (B5d signs l),0⟩,B5d signs l)
def C6F(signs:List (List UInt8))(l:List UInt8):Nat→Nat→List (Tok×Nat)→Except Nat (List (Tok×Nat))
 |0,_,acc=>.ok acc
 |f+1,i,acc=>if i<l.length then match C8K signs (l.drop i)with
  |none=>.error i
  |some (t,k)=>C6F signs l f (B5c l (i+k)) (acc++[(t,i)])
  else .ok acc
def cut(signs:List (List UInt8))(l:List UInt8):Except Nat (List (Tok×Nat)):=C6F signs l (l.length+1) (B5c l 0) []
end Go.Lexs
namespace Go.Lin
open Go Go.Av Go.Lexs
structure LTm where
 v:ByteArray
 c:Int
 deriving DecidableEq
instance :Inhabited LTm:=⟨⟨⟨#[]⟩,0⟩⟩
structure LinV where
 t:List LTm
 k:Int
 e:Bool
 deriving DecidableEq
instance :Inhabited LinV:=⟨⟨[],0,false⟩⟩
structure VlV where
 v:ByteArray
 n:Int
 deriving DecidableEq
instance :Inhabited VlV:=⟨⟨⟨#[]⟩,0⟩⟩
abbrev Q7(t:LTm):List D:=[.str t.v,.int .i64 t.c]
abbrev E4(a:LinV):List D:=[.sl 2 (Rw Q7 a.t),.int .i64 a.k,.bool a.e]
abbrev vlC(x:VlV):List D:=[.str x.v,.int .i64 x.n]
theorem B1P(a:LinV):E4 a= [.sl 2 (Rw Q7 a.t),.int .i64 a.k,.bool a.e]:=rfl
def W3(n:Int):Prop:= -9223372036854775808≤n∧n≤9223372036854775807
structure a8(a:LinV):Prop where
 len:a.t.length≤5864062014639
 str: ∀t∈a.t,t.v.size≤140737488351232
 co: ∀t∈a.t,W3 t.c
 ko:W3 a.k
structure A4a(l:List VlV):Prop where
 len:l.length≤5864062014639
 str: ∀t∈l,t.v.size≤140737488351232
 no: ∀t∈l,W3 t.n
def U8(c:Int):Bool:=decide (33≤c)&&decide (c≤126)&&decide (c≠43)&&decide (c≠45)&&decide (c≠42)&&decide (c≠60)&&decide (c≠62)&&decide (c≠61)
def H9(l:List UInt8):Bool:=decide (l≠[])&&decide (l.length≤200)&& !U7 (nth l 0)&&l.all (ofB U8)
theorem A63(c:Int):U8 c=true↔33≤c∧c≤126∧c≠43∧c≠45∧c≠42∧c≠60∧c≠62∧c≠61:=by simp[U8,and_assoc]
theorem A3K{c:Int}(h: ¬(33≤c∧c≤126∧c≠43∧c≠45∧c≠42∧c≠60∧c≠62∧c≠61)):U8 c=false:=by rw[←D1B,A63];exact h
def j8(x y:ByteArray):Bool:=Op.bytesLess (B x) (B y)
theorem B5e(x:List UInt8): ∀y,Op.bytesLess x y=true↔x<y:=by
 induction x with
 |nil=>intro y;cases y<;>simp[Op.bytesLess]
 |cons a x d=>
  intro y;cases y with
  |nil=>simp[Op.bytesLess]
  |cons b y=>
   simp only[Op.bytesLess,List.cons_lt_cons_iff,D1C,C92,D0B,beq_iff_eq,d y]
theorem A3L(x y:ByteArray):j8 x y=true↔B x<B y:=B5e _ _
theorem j9(x:ByteArray):j8 x x=false:=by
 rw[←D1B,A3L];exact List.lt_irrefl _
theorem X8{x y z:ByteArray}(h:j8 x y=true)(g:j8 y z=true):j8 x z=true:=by
 rw[A3L]at*;exact List.lt_trans h g
theorem B8m{x y:ByteArray}(h:j8 x y=false)(d:x≠y):j8 y x=true:=by
 rw[←D1B,A3L]at h;rw[A3L];have:B x≠B y:=fun e=>d (by rw[←S_B x,←S_B y,e]);by_cases g:B y<B x
 ·exact g
 ·exact absurd (List.le_antisymm (List.not_lt.1 g) (List.not_lt.1 h)) this
def N2(n most:Int):Bool:=decide (-most≤n)&&decide (n≤most)
def A6e(l:List LTm)(i:Nat):Bool:=
 H9 (B (l.getD i default).v)&&(decide (i=0)||j8 (l.getD (i-1) default).v (l.getD i default).v)&&decide ((l.getD i default).c≠0)&&N2 (l.getD i default).c 1048576
def l4(l:List LTm):Bool:=(List.range l.length).all (A6e l)
def validL(a:LinV):Bool:=l4 a.t&&decide (a.t.length≤12)&&N2 a.k 1099511627776
def up:List ByteArray→Bool
 | []=>true
 | [_]=>true
 |x::y::l=>j8 x y&&up (y::l)
def P6:List ByteArray→ByteArray→List ByteArray
 | [],s=>[s]
 |x::l,s=>if j8 x s=true then x::P6 l s else if x=s then x::l else s::x::l
def O4(l:List LinV):List ByteArray:=l.flatMap fun c=>c.t.map (·.v)
def A1n(l:List LinV):List ByteArray:=(O4 l).foldl P6 []
theorem A64(l:List ByteArray)(s x:ByteArray):x∈P6 l s↔x∈l∨x=s:=by
 induction l with
 |nil=>simp[P6]
 |cons y l d=>
  unfold P6;split
  ·simp only[D0H,d];constructor
   ·rintro(h|h|h)
    ·exact .inl (.inl h)
    ·exact .inl (.inr h)
    ·exact .inr h
   ·rintro((h|h)|h)
    ·exact .inl h
    ·exact .inr (.inl h)
    ·exact .inr (.inr h)
  ·split
   ·rename_i e;subst e;simp only[D0H];constructor
    ·exact .inl
    ·rintro(h|h)
     ·exact h
     ·exact .inl h
   ·simp only[D0H];constructor
    ·rintro(h|h)
     ·exact .inr h
     ·exact .inl h
    ·rintro(h|h)
     ·exact .inr h
     ·exact .inl h
theorem B5f{l:List ByteArray}{s:ByteArray}(h:l.Pairwise fun x y=>j8 x y=true):(P6 l s).Pairwise fun x y=>j8 x y=true:=by
 induction l with
 |nil=>exact List.pairwise_singleton _ _
 |cons y l i=>
  unfold P6;split
  ·rename_i h1;refine List.Pairwise.cons (fun z d=>?_) (i h.of_cons);rcases(A64 _ _ _).1 d with g|rfl
   ·exact List.rel_of_pairwise_cons h g
   ·exact h1
  ·rename_i h1;split
   ·exact h
   ·rename_i j;have e:=B8m (D1B _ ▸ h1) j;refine List.Pairwise.cons (fun z d=>?_) h;rcases D0H.1 d with rfl|d
    ·exact e
    ·exact X8 e (List.rel_of_pairwise_cons h d)
theorem A9m(m:List ByteArray): ∀(l:List ByteArray),l.Pairwise (fun x y=>j8 x y=true)→(m.foldl P6 l).Pairwise fun x y=>j8 x y=true:=by
 induction m with
 |nil=>exact fun l h=>h
 |cons s m d=>exact fun l h=>d _ (B5f h)
theorem A65(m:List ByteArray)(x:ByteArray): ∀(l:List ByteArray),x∈m.foldl P6 l↔x∈l∨x∈m:=by
 induction m with
 |nil=>intro l;simp
 |cons s m d=>
  intro l;rw[List.foldl_cons,d,A64,D0H,or_assoc]
theorem A9n(l:List LinV):(A1n l).Pairwise fun x y=>j8 x y=true:=A9m _ _ .nil
theorem A66(l:List LinV)(x:ByteArray):x∈A1n l↔x∈O4 l:=by unfold A1n;rw[A65];simp
theorem A5p: ∀{l m:List ByteArray},l.Pairwise (fun x y=>j8 x y=true)→m.Pairwise (fun x y=>j8 x y=true)→(∀x,x∈l↔x∈m)→l=m
 | [],[],_,_,_=>rfl
 | [],y::m,_,_,h=>absurd ((h y).2 (C90 ..)) (by simp)
 |x::l,[],_,_,h=>absurd ((h x).1 (C90 ..)) (by simp)
 |x::l,y::m,hl,hm,h=>by
  have e:x=y:=by
   rcases D0H.1 ((h x).1 (C90 ..))with e|g
   ·exact e
   ·rcases D0H.1 ((h y).2 (C90 ..))with e|i
    ·exact e.symm
    ·have a1:=List.rel_of_pairwise_cons hm g;have a2:=List.rel_of_pairwise_cons hl i;have:=X8 a1 a2;rw[j9]at this;cases this
  subst e;refine congrArg (x:: ·) (A5p hl.of_cons hm.of_cons fun z=>?_);constructor
  ·intro d;rcases D0H.1 ((h z).1 (C97 _ d))with rfl|g
   ·have:=List.rel_of_pairwise_cons hl d;rw[j9]at this;cases this
   ·exact g
  ·intro d;rcases D0H.1 ((h z).2 (C97 _ d))with rfl|g
   ·have:=List.rel_of_pairwise_cons hm d;rw[j9]at this;cases this
   ·exact g
end Go.Lin
namespace Go.Fo
open Go Go.Av Go.Lexs Go.Lin
inductive Fm where
 |mk (op:Int) (n:Int) (l:LinV) (s:ByteArray) (ks:List Fm)
namespace Fm
def op:Fm→Int|mk o _ _ _ _=>o
def n:Fm→Int|mk _ n _ _ _=>n
def l:Fm→LinV|mk _ _ l _ _=>l
def s:Fm→ByteArray|mk _ _ _ s _=>s
def ks:Fm→List Fm|mk _ _ _ _ ks=>ks
end Fm
theorem C3h(f:Fm):f= .mk f.op f.n f.l f.s f.ks:=by cases f;rfl
def C0:Fm→List D
 | .mk o n l s ks=>[.int .i64 o,.int .i64 n,.sl 2 (Rw Q7 l.t),.int .i64 l.k,.bool l.e,.str s,.sl 7 (fmsC ks)]
where fmsC:List Fm→List (List D)
 | []=>[]
 |f::fs=>C0 f::fmsC fs
theorem B8n(l:List Fm):C0.fmsC l=Rw C0 l:=by
 induction l with
 |nil=>rfl
 |cons f l d=>simp only[C0.fmsC,d];rfl
theorem N3(f:Fm):C0 f= [.int .i64 f.op,.int .i64 f.n,.sl 2 (Rw Q7 f.l.t),.int .i64 f.l.k,.bool f.l.e,.str f.s,.sl 7 (Rw C0 f.ks)]:=by
 cases f;simp only[C0,B8n];rfl
theorem P2{p:Fm→Prop}(h: ∀o n l s ks,(∀k∈ks,p k)→p (.mk o n l s ks)): ∀f,p f
 | .mk o n l s ks=>h o n l s ks (go ks)
where go: ∀ks:List Fm,∀k∈ks,p k
 | [],_,hk=>absurd hk D0I
 |f::fs,k,hk=>(D0H.1 hk).elim (fun e=>e ▸ P2 h f) (go fs k)
inductive FmFit:Fm→Prop
 |mk (o n:Int) (l:LinV) (s:ByteArray) (ks:List Fm) (ho:W3 o) (hn:W3 n) (hl:a8 l) (hs:s.size≤140737488351232) (hk:ks.length≤1466015503658) (h: ∀k∈ks,FmFit k):FmFit (.mk o n l s ks)
def A1o(c:Int):Bool:=decide (c≠40)&&decide (c≠41)&&decide (c≠44)&&decide (c≠33)&&decide (c≠38)&&decide (c≠124)&&decide (c≠63)
def plainB(s:ByteArray):Bool:=H9 (B s)&&(B s).all (ofB A1o)
def A9o(l:LinV):Bool:=decide (l.t= [])&&decide (l.k=0)&& !l.e
def D5(f:Fm):Bool:=
 if f.op=1 then(decide (f.n=0)||decide (f.n=1))&&decide (f.s.size=0)&&A9o f.l&&f.ks.isEmpty
 else if f.op=2 then decide (f.n=0)&&decide (f.s.size=0)&&f.ks.isEmpty&&validL f.l&&f.l.t.all fun t=>plainB t.v
 else if f.op=3 then decide (f.n=0)&&A9o f.l&&f.ks.isEmpty&&plainB f.s
 else if f.op=4 then decide (f.n=0)&&decide (f.s.size=0)&&A9o f.l&&decide (f.ks.length=1)
 else if f.op=5∨f.op=6 then decide (f.n=0)&&decide (f.s.size=0)&&A9o f.l
 else false
def I8:Fm→Nat
 | .mk _ _ _ _ ks=>1+nodesL ks
where nodesL:List Fm→Nat
 | []=>0
 |f::fs=>I8 f+nodesL fs
def P3:Fm→Nat
 | .mk _ _ _ _ ks=>1+deepL ks
where deepL:List Fm→Nat
 | []=>0
 |f::fs=>max (P3 f) (deepL fs)
def G8(p:Fm→Bool):Fm→Bool
 | .mk o n l s ks=>p (.mk o n l s ks)&&allK ks
where allK:List Fm→Bool
 | []=>true
 |f::fs=>G8 p f&&allK fs
def A0Y:Fm→List ByteArray×List ByteArray→List ByteArray×List ByteArray
 | .mk o _ l s ks,(a,b)=>namesK ks ((l.t.map (·.v)).foldl P6 a,if o=3 then P6 b s else b)
where namesK:List Fm→List ByteArray×List ByteArray→List ByteArray×List ByteArray
 | [],p=>p
 |f::fs,p=>namesK fs (A0Y f p)
def meetL(l m:List ByteArray):Bool:=l.any fun s=>m.any fun t=>decide (s=t)
def E5(f:Fm):Bool:=G8 D5 f&&decide (P3 f≤60)&&decide (I8 f≤200)&& !meetL (A0Y f ([],[])).1 (A0Y f ([],[])).2&&decide ((A0Y f ([],[])).1.length+(A0Y f ([],[])).2.length≤12)
end Go.Fo
namespace Go.Proofs
open Go.RowKit Go.Maps Go.Sort Go.Shelf

--maps.Keys[map[string]bool,string,bool] (function 47;its iterator 89) · slices.Sorted[string] (46) · slices.Sort[[]string,string] (88) · the map's type 72,the keys' 9
def Tryz.keys47_ren:Go.Shelf.Ren:=⟨fun|7=>47|10=>89|n=>n,fun|23=>72|26=>9|3=>4|28=>77|0=>0|27=>76|33=>123|4=>4|n=>n,fun|n=>n⟩
theorem A19:SlLaysZ.n7 Tryz.prog Tryz.keys47_ren:={
 mixed:=by kernel_rfl
 f7:=Exists.intro "maps.Keys[map[string]bool,string,bool]" ⟨C9q (by kernel_rfl),(Tryz.func47).trans (congrArg some (by kernel_rfl))⟩
 f10:=Exists.intro "maps.Keys[map[string]bool,string,bool]$1" ⟨C9q (by kernel_rfl),(Tryz.func89).trans (congrArg some (by kernel_rfl))⟩
 t0:=Tryz.underlying0
 a0:=Tryz.isAgg0
 z0:=Tryz.sizeOf0
 v0:=Tryz.zeroValue0
 t4:=Tryz.underlying4
 a4:=Tryz.isAgg4
 z4:=Tryz.sizeOf4
 v4:=Tryz.zeroValue4
 t23:=Tryz.underlying72
 a23:=Tryz.isAgg72
 z23:=Tryz.sizeOf72
 v23:=Tryz.zeroValue72
 t26:=Tryz.underlying9
 a26:=Tryz.isAgg9
 z26:=Tryz.sizeOf9
 v26:=Tryz.zeroValue9
 t27:=Tryz.underlying76
 a27:=Tryz.isAgg76
 z27:=Tryz.sizeOf76
 v27:=Tryz.zeroValue76
 t28:=Tryz.underlying77
 a28:=Tryz.isAgg77
 z28:=Tryz.sizeOf77
 v28:=Tryz.zeroValue77
 t33:=Tryz.underlying123
 a33:=Tryz.isAgg123
 z33:=Tryz.sizeOf123
 v33:=Tryz.zeroValue123}
def Tryz.sorted46_ren:Go.Shelf.Ren:=⟨fun|6=>46|8=>87|9=>88|11=>132|13=>134|12=>133|23=>169|24=>170|14=>160|15=>161|16=>162|17=>163|18=>164|19=>165|20=>166|21=>167|22=>168|25=>203|26=>204|27=>205|28=>206|29=>207|30=>208|31=>231|n=>n,fun|26=>9|28=>77|24=>31|0=>0|3=>3|37=>163|48=>194|50=>196|4=>4|40=>188|39=>187|45=>92|5=>5|9=>9|51=>226|55=>230|57=>256|58=>257|33=>123|n=>n,fun|n=>n⟩
theorem A2e:SlLaysZ.n6 Tryz.prog Tryz.sorted46_ren:={
 mixed:=by kernel_rfl
 f6:=Exists.intro "slices.Sorted[string]" ⟨C9q (by kernel_rfl),(Tryz.func46).trans (congrArg some (by kernel_rfl))⟩
 f8:=Exists.intro "slices.Collect[string]" ⟨C9q (by kernel_rfl),(Tryz.func87).trans (congrArg some (by kernel_rfl))⟩
 f11:=Exists.intro "slices.AppendSeq[[]string,string]" ⟨C9q (by kernel_rfl),(Tryz.func132).trans (congrArg some (by kernel_rfl))⟩
 t0:=Tryz.underlying0
 a0:=Tryz.isAgg0
 z0:=Tryz.sizeOf0
 v0:=Tryz.zeroValue0
 t24:=Tryz.underlying31
 a24:=Tryz.isAgg31
 z24:=Tryz.sizeOf31
 v24:=Tryz.zeroValue31
 t26:=Tryz.underlying9
 a26:=Tryz.isAgg9
 z26:=Tryz.sizeOf9
 v26:=Tryz.zeroValue9
 t28:=Tryz.underlying77
 a28:=Tryz.isAgg77
 z28:=Tryz.sizeOf77
 v28:=Tryz.zeroValue77
 i26:=by kernel_rfl}
def Tryz.sort88_ren:Go.Shelf.Ren:=⟨fun|6=>88|8=>134|9=>133|19=>169|20=>170|21=>160|22=>161|23=>162|24=>163|25=>164|26=>165|27=>166|28=>167|29=>168|36=>203|31=>204|32=>205|37=>206|38=>207|39=>208|41=>231|n=>n,fun|27=>31|29=>9|3=>3|32=>163|26=>31|0=>0|44=>194|46=>196|4=>4|36=>188|35=>187|41=>92|5=>5|9=>9|53=>226|57=>230|63=>256|64=>257|n=>n,fun|n=>n⟩
theorem A4p:SlLaysM.n6 Tryz.prog Tryz.sort88_ren:={
 mixed:=by kernel_rfl
 f6:=Exists.intro "slices.Sort[[]string,string]" ⟨C9q (by kernel_rfl),(Tryz.func88).trans (congrArg some (by kernel_rfl))⟩
 f8:=(Tryz.func134).trans (congrArg some (by kernel_rfl))
 f9:=Exists.intro "slices.pdqsortOrdered[string]" ⟨C9q (by kernel_rfl),(Tryz.func133).trans (congrArg some (by kernel_rfl))⟩
 f19:=(Tryz.func169).trans (congrArg some (by kernel_rfl))
 f20:=(Tryz.func170).trans (congrArg some (by kernel_rfl))
 f21:=Exists.intro "slices.insertionSortOrdered[string]" ⟨C9q (by kernel_rfl),(Tryz.func160).trans (congrArg some (by kernel_rfl))⟩
 f22:=Exists.intro "slices.heapSortOrdered[string]" ⟨C9q (by kernel_rfl),(Tryz.func161).trans (congrArg some (by kernel_rfl))⟩
 f23:=Exists.intro "slices.breakPatternsOrdered[string]" ⟨C9q (by kernel_rfl),(Tryz.func162).trans (congrArg some (by kernel_rfl))⟩
 f24:=Exists.intro "slices.choosePivotOrdered[string]" ⟨C9q (by kernel_rfl),(Tryz.func163).trans (congrArg some (by kernel_rfl))⟩
 f25:=Exists.intro "slices.reverseRangeOrdered[string]" ⟨C9q (by kernel_rfl),(Tryz.func164).trans (congrArg some (by kernel_rfl))⟩
 f26:=Exists.intro "slices.partialInsertionSortOrdered[string]" ⟨C9q (by kernel_rfl),(Tryz.func165).trans (congrArg some (by kernel_rfl))⟩
 f27:=Exists.intro "cmp.Less[string]" ⟨C9q (by kernel_rfl),(Tryz.func166).trans (congrArg some (by kernel_rfl))⟩
 f28:=Exists.intro "slices.partitionEqualOrdered[string]" ⟨C9q (by kernel_rfl),(Tryz.func167).trans (congrArg some (by kernel_rfl))⟩
 f29:=Exists.intro "slices.partitionOrdered[string]" ⟨C9q (by kernel_rfl),(Tryz.func168).trans (congrArg some (by kernel_rfl))⟩
 f31:=(Tryz.func204).trans (congrArg some (by kernel_rfl))
 f32:=(Tryz.func205).trans (congrArg some (by kernel_rfl))
 f36:=Exists.intro "slices.siftDownOrdered[string]" ⟨C9q (by kernel_rfl),(Tryz.func203).trans (congrArg some (by kernel_rfl))⟩
 f37:=Exists.intro "slices.medianAdjacentOrdered[string]" ⟨C9q (by kernel_rfl),(Tryz.func206).trans (congrArg some (by kernel_rfl))⟩
 f38:=Exists.intro "slices.medianOrdered[string]" ⟨C9q (by kernel_rfl),(Tryz.func207).trans (congrArg some (by kernel_rfl))⟩
 f39:=Exists.intro "cmp.isNaN[string]" ⟨C9q (by kernel_rfl),(Tryz.func208).trans (congrArg some (by kernel_rfl))⟩
 f41:=Exists.intro "slices.order2Ordered[string]" ⟨C9q (by kernel_rfl),(Tryz.func231).trans (congrArg some (by kernel_rfl))⟩
 t0:=Tryz.underlying0
 a0:=Tryz.isAgg0
 z0:=Tryz.sizeOf0
 v0:=Tryz.zeroValue0
 t3:=Tryz.underlying3
 a3:=Tryz.isAgg3
 z3:=Tryz.sizeOf3
 v3:=Tryz.zeroValue3
 t4:=Tryz.underlying4
 a4:=Tryz.isAgg4
 z4:=Tryz.sizeOf4
 v4:=Tryz.zeroValue4
 t5:=Tryz.underlying5
 a5:=Tryz.isAgg5
 z5:=Tryz.sizeOf5
 v5:=Tryz.zeroValue5
 t9:=Tryz.underlying9
 a9:=Tryz.isAgg9
 z9:=Tryz.sizeOf9
 v9:=Tryz.zeroValue9
 t26:=Tryz.underlying31
 a26:=Tryz.isAgg31
 z26:=Tryz.sizeOf31
 v26:=Tryz.zeroValue31
 t27:=Tryz.underlying31
 a27:=Tryz.isAgg31
 z27:=Tryz.sizeOf31
 v27:=Tryz.zeroValue31
 t29:=Tryz.underlying9
 a29:=Tryz.isAgg9
 z29:=Tryz.sizeOf9
 v29:=Tryz.zeroValue9
 t32:=Tryz.underlying163
 a32:=Tryz.isAgg163
 z32:=Tryz.sizeOf163
 v32:=Tryz.zeroValue163
 t35:=Tryz.underlying187
 a35:=Tryz.isAgg187
 z35:=Tryz.sizeOf187
 v35:=Tryz.zeroValue187
 t36:=Tryz.underlying188
 a36:=Tryz.isAgg188
 z36:=Tryz.sizeOf188
 v36:=Tryz.zeroValue188
 t41:=Tryz.underlying92
 a41:=Tryz.isAgg92
 z41:=Tryz.sizeOf92
 v41:=Tryz.zeroValue92
 t44:=Tryz.underlying194
 a44:=Tryz.isAgg194
 z44:=Tryz.sizeOf194
 v44:=Tryz.zeroValue194
 t46:=Tryz.underlying196
 a46:=Tryz.isAgg196
 z46:=Tryz.sizeOf196
 v46:=Tryz.zeroValue196
 t53:=Tryz.underlying226
 a53:=Tryz.isAgg226
 z53:=Tryz.sizeOf226
 v53:=Tryz.zeroValue226
 t57:=Tryz.underlying230
 a57:=Tryz.isAgg230
 z57:=Tryz.sizeOf230
 v57:=Tryz.zeroValue230
 t63:=Tryz.underlying256
 a63:=Tryz.isAgg256
 z63:=Tryz.sizeOf256
 v63:=Tryz.zeroValue256
 t64:=Tryz.underlying257
 a64:=Tryz.isAgg257
 z64:=Tryz.sizeOf257
 v64:=Tryz.zeroValue257}
theorem A3l(m:Nat):AnyZ.SortsIn Tryz.prog Tryz.sorted46_ren Fence.wide m:=
  ⟨fun e off cap g W h d hsz=>callsIn_wide.2 (AnyM.slices_Sort_string A4p e off cap g W h d hsz),
   fun p cap W=>callsIn_wide.2 (AnyM.slices_Sort_string_none A4p p cap W)⟩
theorem A0R(mb:Option Nat)(W:World):CallsIn Fence.wide 5 Tryz.prog 47 #[.map mb] W fun e w'=>e= .returned (.func (.func 89) #[] #[.pointer (some ⟨W.heap.size,0,none⟩)])∧w'=W.alloc (.cells #[.map mb] 72):=
 AnyZ.keys_in A19 Fence.wide 5 trivial rfl mb W
end Go.Proofs
namespace Go.Lin
open Go Go.Av Go.RowKit Go.Maps Go.Sort Go.Shelf Go.Lexs Go.WideElems
theorem A4b{H:Type}(x:Lit×DataW H): ∀l:List (Lit×DataW H),(DataW.insert x l).Perm (x::l)
 | []=>List.Perm.refl _
 |y::l=>by
  unfold DataW.insert;split
  ·exact List.Perm.refl _
  ·exact((A4b x l).cons y).trans (List.Perm.swap x y l)
theorem y0{H:Type}: ∀l:List (Lit×DataW H),(l.foldr DataW.insert []).Perm l
 | []=>List.Perm.refl _
 |x::l=>(A4b x _).trans ((y0 l).cons x)
def A1Y{H:Type}:Value→Option (DataW H×List MemPlace):=fun _=>some (.lit (.bool true),[])
def C7(f:ByteArray→D)(ks:List ByteArray):List (D×D):=ks.map fun s=>(.str s,f s)
theorem B2b{d:List (List UInt8)}(e:d.Nodup):((d.mergeSort (fun x y=>decide (x≤y))).map S).Pairwise fun x y=>j8 x y=true:=by
 have h1:(d.mergeSort (fun x y=>decide (x≤y))).Pairwise (fun x y=>decide (x≤y)=true):=List.pairwise_mergeSort (fun a b c h1 i=>by simp only[D0B]at*;exact List.le_trans h1 i) (fun a b=>by simp only[D1C,D0B];exact List.le_total a b) d;have i:(d.mergeSort (fun x y=>decide (x≤y))).Nodup:=(List.mergeSort_perm d _).nodup_iff.2 e;rw[List.pairwise_map];refine(h1.and i).imp fun {x y} h=>?_;rw[A3L,l9,l9];have j:x≤y:=C9q h.1;by_cases g:x<y
 ·exact g
 ·exact absurd (List.le_antisymm j (List.not_lt.1 g)) h.2
end Go.Lin
namespace Go.Proofs.YtibphjonmikciaaGreatDoor
open Go Go.Av Go.RowKit Go.Maps Go.Sort Go.Shelf Go.Lexs Go.WideElems Go.Lin
abbrev D7:=ACalls Tryz.prog
theorem B8o{Q}(b:Nat)(H:Heap)(h: ∀bk,H bk=none→Q (.fn (.func 89) [] [.box bk 0]) (H.set bk (.box [.map b]))):D7 47 [.map b] H Q:=by
 refine⟨by kernel_rfl,fun w vs hl hr hs=>?_⟩;obtain⟨a,rfl,m⟩:=A1m hl hr;have o:a= .map (some b):=by cases m;rfl
 subst o;refine(callsIn_wide.1 (A0R (some b) w)).mono ?_;rintro e w' ⟨rfl,rfl⟩;have hp:=A27 (K:=fun d H'=>∃bk,d= .box bk 0∧H bk=none∧H'=H.set bk (.box [.map b])) hs (cs:=[.map b]) (vs:= #[.map (some b)]) 72 (Z:=none) (by simp) ⟨rfl,fun i d g=>(match i,g with|0,g=>by cases g;rfl|i+1,g=>by cases g),fun i d g=>(match i,g with|0,g=>by cases g;exact .map b|i+1,g=>by cases g)⟩ (fun bk j=>⟨bk,rfl,j,rfl⟩);obtain⟨d,x,p,q,r,u,bk,rfl,j,rfl⟩:=hp;refine⟨_,rfl,.fn (.func 89) [] [.box bk 0],_,?_,q,r,u,h bk j⟩;refine .fn _ [] [.box bk 0] #[] #[_] rfl rfl (by simp) fun i d g=>?_
 match i with
 |0=>cases g;exact p
 |i+1=>cases g
theorem B8p{Q}(r b:Nat)(f:ByteArray→D)(ks:List ByteArray)(hlen:ks.length≤1000000000)(hsz: ∀s∈ks,s.size≤4611686018427387904)(H:Heap)(h1:H r=some (.box [.map b]))(O:H b=some (.map (C7 f ks)))
  (h: ∀l:List ByteArray,l.Pairwise (fun x y=>j8 x y=true)→(∀s,s∈l↔s∈ks)→Q (.sl 1 (Rw a7 l)) H):D7 46 [.fn (.func 89) [] [.box r 0]] H Q:=by
 refine⟨by kernel_rfl,fun w vs hl hr hs=>?_⟩;obtain⟨a,rfl,ha⟩:=A1m hl hr;have ea:a= .func (.func 89) #[] #[.pointer (some ⟨r,0,none⟩)]:=by
  cases ha with
  |fn _ _ _ b0 b1 b2 b3 q1 q2=>
   have e1:b0= #[]:=Array.eq_empty_of_size_eq_zero (by simpa using b2.symm);obtain⟨l2⟩:=b1
   match l2,b3 with
   | [x],_=>
    have hx:=q2 0 _ rfl;have:x= .pointer (some ⟨r,0,none⟩):=by
     simp at hx;cases hx;rfl
    rw[e1,this]
 subst ea;obtain⟨c,T,lo,u,c1,_,c2,c3,_⟩:=hs _ _ h1;obtain⟨es,C,m1,m2,m3,m4⟩:=hs _ _ O;have b4:c[0]? =some (.map (some b)):=by
  have h0:=(c3 0 (.map b) rfl).2;have hsz:0<c.size:=by rw[c2];simp
  have e:c[0]? =some (c.getD 0 undef):=by simp[hsz]
  rw[e];revert h0;generalize c.getD 0 undef=x;intro h0;cases h0;rfl
 have G:w.cell? ⟨r,0,none⟩=some (.map (some b)):=by
  unfold World.cell?;simp only[c1];exact b4
 have b6:r<w.heap.size:=hs.lt h1;have U: ∀(i:Nat) (u:i<ks.length),(es.getD i default).key= .string ks[i]:=fun i u=>by
  have:=(m4 i (.str ks[i],f ks[i]) (by simp[C7,u])).2.1;revert this;generalize (es.getD i default).key=x;intro this;cases this;rfl
 have V:es.size=ks.length:=by rw[m3];simp[C7]
 have I:es.toList.map (·.key)=ks.map .string:=by
  apply D1A
  ·simp[V]
  ·intro i h1 O;have u:i<ks.length:=by simpa using O
   have:=U i u;have m:i<es.size:=by omega
   simp[m]at this;simp[this]
 have W: ∀x∈es.toList,∃s∈ks,x.key= .string s:=fun x hx=>by
  have:x.key∈es.toList.map (·.key):=D0n.2 ⟨x,hx,rfl⟩;rw[I]at this;obtain⟨s,hs,e⟩:=D0n.1 this;exact⟨s,hs,e.symm⟩
 have X:Tryz.prog.underlying 9=some .string:=by kernel_rfl
 have Y: ∀x∈es.toList,∀s,s∈ks→x.key= .string s→WideElems.rd (H:=Unit) Tryz.prog 9 A1Y x=some (.string s.data.toList,.lit (.bool true)):=fun x _ s hs e=>by
  unfold WideElems.rd;rw[e,WideMaps.keyOf_string_mk X (by have:=hsz s hs;unfold maxLen;omega)];rfl
 have a0:w.ownsMap (H:=Unit) Tryz.prog 9 A1Y b es.size (.map ((es.toList.map (rg Tryz.prog 9 A1Y)).foldr DataW.insert [])):=by
  refine⟨es,C,m1,⟨by unfold maxLen;omega,m2,fun x hx=>?_⟩,C99 _,rfl⟩;obtain⟨s,hs,e⟩:=W x hx;exact⟨_,Y x hx s hs e⟩
 have b7: ∀x∈es.toList,∀s,s∈ks→x.key= .string s→rg (H:=Unit) Tryz.prog 9 A1Y x=(.string s.data.toList,.lit (.bool true)):=fun x hx s hs e=>rg_of (Y x hx s hs e);have b8:(strKeys (H:=Unit) (.map ((es.toList.map (rg Tryz.prog 9 A1Y)).foldr DataW.insert []))).Perm (ks.map B):=by
  show (((es.toList.map (rg Tryz.prog 9 A1Y)).foldr DataW.insert []).map fun p=>strOf p.1).Perm _;refine((y0 _).map _).trans ?_;rw[List.map_map];have:es.toList.map ((fun p=>strOf p.1) ∘ rg (H:=Unit) Tryz.prog 9 A1Y)=ks.map B:=by
   have e2:ks.map B=(es.toList.map (·.key)).map (fun v=>match v with| .string s=>B s|_=>[]):=by rw[I,List.map_map];rfl
   rw[e2,List.map_map];refine List.map_congr_left fun x hx=>?_;obtain⟨s,hs,e⟩:=W x hx;simp only[Function.comp];rw[b7 x hx s hs e,e];rfl
  rw[this]
 have b9:(ks.map B).Nodup:=by
  have:=m2.2.2;rw[I]at this;have O:List.Pairwise (fun a b:ByteArray=>Value.string a≠Value.string b) ks:=List.pairwise_map.1 this;have M:List.Pairwise (fun a b:ByteArray=>B a≠B b) ks:=O.imp fun {a b} h e=>h (congrArg Value.string (i7 e));exact List.pairwise_map.2 M
 have a4:=AnyZ.keys_gives (ρ :=Tryz.keys47_ren) {A19 with} Fence.wide 2 trivial rfl (by omega) r b es.size _ w b6 G a0;have a5:Maps.size (.map ((es.toList.map (rg (H:=Unit) Tryz.prog 9 A1Y)).foldr DataW.insert []):DataW Unit)=ks.length:=by
  show (((es.toList.map (rg Tryz.prog 9 A1Y)).foldr DataW.insert [])).length=_;rw[(y0 _).length_eq];simp[V]
 refine(callsIn_wide.1 (AnyZ.sorted_in A2e Fence.wide 5 trivial trivial trivial trivial rfl (by omega) (A3l _) (enters_of Tryz.func88 (by kernel_rfl) rfl) 89 #[.pointer (some ⟨r,0,none⟩)] trivial (enters_of Tryz.func89 (by kernel_rfl) rfl) _ _ (by rw[a5];unfold maxLen;omega) (by rw[a5];omega) w a4)).mono ?_;rintro e w' ⟨v,o,rfl,hS,A,_,hB⟩;have hp:o.Perm (ks.map B):=hS.trans b8;have c0:o.Nodup:=hp.nodup_iff.2 b9;have c4:=B2b c0;have a6: ∀s,s∈(o.mergeSort (fun x y=>decide (x≤y))).map S↔s∈ks:=fun s=>by
  rw[D0n];constructor
  ·rintro⟨x,hx,rfl⟩;have:=hp.mem_iff.1 ((List.mergeSort_perm o _).mem_iff.1 hx);obtain⟨t,ht,rfl⟩:=D0n.1 this;rw[S_B];exact ht
  ·intro hs;refine⟨B s,(List.mergeSort_perm o _).mem_iff.2 (hp.mem_iff.2 (D0n.2 ⟨s,hs,rfl⟩)),S_B s⟩
 refine⟨v,rfl,.sl 1 (Rw a7 ((o.mergeSort (fun x y=>decide (x≤y))).map S)),H,?_,A36 hs hB,A2H hB,D1M _ _,h _ c4 a6⟩;have J:((o.mergeSort (fun x y=>decide (x≤y))).map S).length=o.length:=by simp
 generalize o.mergeSort (fun x y=>decide (x≤y))=zs at A J⊢;obtain⟨r1,r2⟩:=A;rcases r2 with⟨rfl,r3⟩|⟨g,cap,q,rfl,r3,r4,r5,r6,r7,r8⟩
 ·have:zs.map S= []:=D0D (by rw[J,r3]);rw[this];exact .sl0 _ _ _
 ·have L:(Rw a7 (zs.map S)).length=o.length:=by rw[D6,J]
  rw[←L];refine .sl 1 _ g 0 cap (fun i j=>q.getD i undef) ?_ ?_ (fun i e he=>?_) (by rw[L];exact r5) (fun i j u hj=>?_) (fun i e j d he hd=>?_) (fun i e j d he hd=>?_)
  ·by_cases a9:g<w'.heap.size
   ·exact a9
   ·rw[Array.getElem?_eq_none (Nat.le_of_not_lt a9)]at r4;cases r4
  ·exact G9 (hs.fresh r3)
  ·rw[Rw,D0C]at he;obtain⟨x,_,rfl⟩:=C9y.1 he;rfl
  ·have c5:j=0:=by omega
   subst c5;have m:i<q.size:=by rw[L]at u;rw[r7];omega
   unfold World.cell?;simp only[r4];simp[m]
  ·rw[Rw,D0C]at he;obtain⟨x,_,rfl⟩:=C9y.1 he
   match j with
   |0=>cases hd;rfl
   |j+1=>cases hd
  ·rw[Rw,D0C,D0C]at he;obtain⟨x,hx,rfl⟩:=C9y.1 he;obtain⟨z,hz,rfl⟩:=C9y.1 hx
   match j with
   |0=>
    cases hd;have u:i<zs.length:=(C9z.1 hz).1;have M:(q.toList.take (o.length*1))[i]? =some (encStr z):=by rw[r8,D0C,hz];rfl
    rw[List.getElem?_take]at M;split at M
    ·have:q[i]? =some (encStr z):=by simpa using M
     have e:q.getD i undef=encStr z:=by
      have m:=(D0E.1 this)
      obtain⟨c6,c7⟩:=m;simp[c6,c7]
     rw[e];exact .str _
    ·cases M
   |j+1=>cases hd
end Go.Proofs.YtibphjonmikciaaGreatDoor
