/- Part of the proof: what the last text builds on. No condition stands here. -/
import Derived.Test.YtibphjonmikciaaGreatDoorProg
import Derived.Test.YtibphjonmikciaaGreatDoorRows
import Derived.Test.YtibphjonmikciaaGreatDoorCards
import Derived.Test.YtibphjonmikciaaGreatDoorTie
import Derived.Test.YtibphjonmikciaaGreatDoorAc1
set_option linter.unusedSimpArgs false
set_option linter.unusedVariables false
namespace Go.Av
abbrev FEnv:=Nat→D
def FEnv.put(F:FEnv):Option Nat→D→FEnv
 |some t,d=>fun k=>if t=k then d else F k
 |none,_=>F
def FEnv.ev(F:FEnv):Operand→D
 | .tmp t=>F t
 | .const v=>D.ofValue v
 | .global g=>.glob g
 | .func f=>.fn (.func f) [] []
def T0:D→List Nat
 | .vec b _ _ _| .box b _=>[b]
 |_=>[]
def rdB:D→List Nat
 | .box b _| .el b _ _ _| .vec b _ _ _| .map b| .glob b=>[b]
 | .fn _ as_ bs=>(as_++bs).flatMap T0
 |_=>[]
theorem A1w{d:D}{b:Nat}(h:b∈T0 d):b∈rdB d:=by cases d<;>simp_all[T0,rdB]
structure Ef where
 rd:List Nat
 del:List Nat
 new:Option Obj
 at_:Option Nat
 val:Nat→D
def Ef.app(e:Ef)(b:Nat)(H:Heap):Heap:=match e.new with
 |none=>H.minus e.del
 |some o=>(H.minus e.del).set b o
def Ef.okB(e:Ef)(b:Nat)(U:Nat→Prop):Prop:=match e.new,e.at_ with
 |none,_=>True
 |some _,some c=>b=c
 |some _,none=>¬U b∨b∈e.del
def Ef.used(e:Ef)(b:Nat)(U:Nat→Prop):Nat→Prop:=match e.new with
 |none=>U
 |some _=>fun k=>U k∨k=b
def B1c(o:Option Obj):Bool:=match o with
 |some o=>o.rw
 |none=>false
structure Bl where
 l:List Nat
 no:List Nat:=[]
 may:List Nat:=[]
def A4H(Bi Bj:Bl):Prop:=(∀b∈Bj.l,b∉Bj.no→b∈Bi.l∧b∉Bi.may)∧∀b∈Bi.l,b∉Bi.no→b∈Bj.l∧b∉Bj.may
structure A51(bl:Bl)(H:Heap)(e:Ef):Prop where
 rd: ∀b∈e.rd,(b∈bl.l∧H b≠none)∧b∉bl.no
 del: ∀b∈e.del,(e.at_=none→b∉bl.l∨b∈bl.may)∧B1c (H b)=true
 new: ∀o,e.new=some o→o.rw=true
 at_: ∀b,e.at_=some b→b∈e.del
def val(d:D)(rd:List Nat):Ef:=⟨rd,[],none,none,fun _=>d⟩
def A0y(f:Nat→D)(o:Obj):Ef:=⟨[],[],some o,none,f⟩
def T1(bl:List Nat)(l:List Nat):List Nat:=l.filter fun b=> !bl.contains b
def inB(bl:List Nat)(l:List Nat):List Nat:=l.filter fun b=>bl.contains b
def B1d(P:Program)(bl:List Nat)(H:Heap)(t t':TypeId)(s x:D):Option Ef:=(G8 P t).bind fun T=>
 if 0<T.2.1∧(C8 P t'= .slice∨C8 P t'= .str)∧(G1 P T.1).map (·.length)=some T.2.1 then(M0 H T.2.1 x).bind fun xs=>match s with
  | .nilsl=>if xs.length*T.2.2≤140737488355328∧xs.length≤9223372036854775807∧xs.isEmpty=false then some ⟨inB bl (T0 x),T1 bl (T0 x),some (.vec T.2.1 xs),none,fun b=>.vec b T.2.1 0 xs.length⟩else none
  | .vec b sz' lo n=>match H b with
   |some (.vec sz'' es)=>if sz'=T.2.1∧sz''=T.2.1∧lo=0∧n≤es.length∧(n+xs.length)*T.2.2≤140737488355328∧n+xs.length≤9223372036854775807 then
     some ⟨inB bl (T0 x),b::T1 bl (T0 x),some (.vec T.2.1 (es.take n++xs)),none,fun b'=>.vec b' T.2.1 0 (n+xs.length)⟩else none
   |_=>none
  |_=>none else none
def bsE(P:Program)(t:TypeId)(len:Nat)(ps:List (Nat×D)):Option Ef:=(G8 P t).bind fun T=>if 0<T.2.1∧len*T.2.1≤16777216 then(G1 P T.1).bind fun z=>
 if z.length=T.2.1 then(A39 (List.replicate len z) ps).map fun es=>A0y (fun b=>.vec b T.2.1 0 len) (.vec T.2.1 es)else none else none
def msE(P:Program)(t:TypeId)(l c:D):Option Ef:=(G8 P t).bind fun T=>if 0<T.2.1 then(G1 P T.1).bind fun z=>match l,c with
 | .int _ n,.int _ m=>if z.length=T.2.1∧0≤n∧n≤m∧(T.2.2:Int)*m≤281474976710656∧m<9223372036854775808 then some (A0y (fun b=>.vec b T.2.1 0 n.toNat) (.vec T.2.1 (List.replicate n.toNat z)))else none
 |_,_=>none else none
theorem A5Q{P:Program}{t:TypeId}{l c:D}{e:Ef}(h:msE P t l c=some e): ∃e' sz d z k n i m,G8 P t=some (e',sz,d)∧0<sz∧G1 P e'=some z∧z.length=sz∧l= .int k n∧c= .int i m∧0≤n∧n≤m∧(d:Int)*m≤281474976710656∧m<9223372036854775808∧
  e=A0y (fun b=>.vec b sz 0 n.toNat) (.vec sz (List.replicate n.toNat z)):=by
 unfold msE at h;obtain⟨⟨e',sz,d⟩,j,h⟩:=D0m.1 h;split at h
 ·rename_i h1;obtain⟨z,o,h⟩:=D0m.1 h;split at h
  ·split at h
   ·rename_i g;cases h;exact⟨e',sz,d,z,_,_,_,_,j,h1,o,g.1,rfl,rfl,g.2.1,g.2.2.1,g.2.2.2.1,g.2.2.2.2,rfl⟩
   ·cases h
  ·cases h
 ·cases h
theorem C2L{P:Program}{t:TypeId}{e' sz d:Nat}{z:List D}{k e:IntKind}{n m:Int}(g:G8 P t=some (e',sz,d))(h1:0<sz)(h:G1 P e'=some z)(i:z.length=sz)(j:0≤n)(o:n≤m)(h5:(d:Int)*m≤281474976710656)(p:m<9223372036854775808):
  msE P t (.int k n) (.int e m)=some (A0y (fun b=>.vec b sz 0 n.toNat) (.vec sz (List.replicate n.toNat z))):=by
 unfold msE;rw[g,D04,if_pos h1,h,D04];simp only[];rw[if_pos ⟨i,j,o,h5,p⟩]
def q8(P:Program)(t:TypeId)(a x:D)(H:Heap):Option Ef:=(Z2 P t a x H).bind fun H'=>match a with
 | .box b _| .el b _ _ _=>(H' b).map fun o=>⟨[],[b],some o,some b,fun _=>.undef⟩
 |_=>none
structure CR where
 new:Option Obj
 val:Nat→D
def CR.c(d:D):CR:=⟨none,fun _=>d⟩
def CR.f(c:CR):Nat→D:=match c.new with
 |none=>fun _=>c.val 0
 |some _=>c.val
def CR.mk'(f:Nat→D)(o:Obj):CR:=⟨some o,f⟩
def I5(P:Program)(c:CR)(bl:List Nat)(ev:Operand→D)(H:Heap)(op:Op):Option Ef:=match op with
 | .load t x=>(y9 P t (ev x) H).map fun d=>val d (rdB (ev x))
 | .lookup t m k ok=>(A1O P t (ev m) (ev k) ok H).map fun d=>val d (rdB (ev m))
 | .alloc t=>(G1 P t).map fun z=>A0y (fun b=>.box b 0) (.box z (A1o P t))
 | .box _ x=>if(ev x).cells.all D.one=true then some (A0y (fun b=>.box b 0) (.box (ev x).cells))else none
 | .buildSlice t len parts=>bsE P t len (parts.toList.map fun p=>(p.1,ev p.2))
 | .makeSlice t l c=>msE P t (ev l) (ev c)
 | .makeMap _ none=>some (A0y (fun b=>.map b) (.map []))
 | .store t a x=>q8 P t (ev a) (ev x) H
 | .call ⟨.builtin .append,args,ts⟩=>match ts.toList,args.toList with
  | [t,t'],[s,x]=>B1d P bl H t t' (ev s) (ev x)
  |_,_=>none
 | .call ⟨.value f,args,ts⟩=>match ev f with
  | .fn (.func _) first cap=>some ⟨inB bl ((first++args.toList.map ev++cap).flatMap T0),T1 bl ((first++args.toList.map ev++cap).flatMap T0),c.new,none,c.f⟩
  |_=>none
 |_=>none
def q9(P:Program)(c:CR)(bl:List Nat)(ev:Operand→D)(H:Heap)(op:Op):Option Ef:=if J1 P op= .pure then(L0 P ev op).map fun d=>val d []else I5 P c bl ev H op
def CR.post(c:CR)(H':Heap)(del:List Nat)(d:D)(H'':Heap):Prop:=match c.new with
 |none=>d=c.val 0∧(H'.minus del).Le H''
 |some o=>∃b,(H' b=none∨b∈del)∧d=c.val b∧((H'.minus del).set b o).Le H''
def B5W(P:Program)(g:Nat)(as_:List D)(H:Heap)(foot del:List Nat)(c:CR):Prop:=
 ∀H':Heap,(∀k cs,H k=some (.ro cs)→H' k=some (.ro cs))→(∀b∈foot,H' b=H b)→ACalls P g as_ H' (c.post H' del)
def O8(P:Program)(c:CR)(bl:List Nat)(ev:Operand→D)(H:Heap)(op:Op):Prop:=match op with
 | .call ⟨.value f,args,ts⟩=>match ev f with
  | .fn (.func g) first cap=>B5W P g (first++args.toList.map ev++cap) H ((first++args.toList.map ev++cap).flatMap T0) (T1 bl ((first++args.toList.map ev++cap).flatMap T0)) c
  |_=>False
 |_=>True
section
variable {P:Program} {c:CR} {bl:List Nat} {bb Bi Bj:Bl} {ev ev':Operand→D} {H H':Heap}
theorem s8{l:List Nat}{b:Nat}:b∈inB bl l↔b∈l∧b∈bl:=by simp[inB]
theorem T3{l:List Nat}{b:Nat}:b∈T1 bl l↔b∈l∧b∉bl:=by simp[T1]
theorem A2x{l:List Operand}(h: ∀x∈l,ev x=ev' x):l.map ev=l.map ev':=List.map_congr_left h
theorem A52{l:List (Nat×Operand)}(h: ∀x∈l.map (·.2),ev x=ev' x):(l.map fun p=>(p.1,ev p.2))=l.map fun p=>(p.1,ev' p.2):=
 List.map_congr_left fun p hp=>by rw[h p.2 (D1Y.2 ⟨p,hp,rfl⟩)]
theorem A1x{op:Op}(hc:J1 P op= .pure)(h: ∀x∈op.operands.toList,ev x=ev' x):L0 P ev op=L0 P ev' op:=by
 cases op
 case build t parts=>
  simp only[L0,A52 (ev:=ev) (ev':=ev') (l:=parts.toList) (fun x hx=>h x (by simpa [Op.operands]using hx))]
 case slice t x lo hi m=>
  have hx:=h x (by simp[Op.operands]);have j:lo.map ev=lo.map ev':=by
   cases lo with
   |none=>rfl
   |some l=>simp only[Option.map_some,h l (by simp[Op.operands])]
  have o:hi.map ev=hi.map ev':=by
   cases hi with
   |none=>rfl
   |some l=>simp only[Option.map_some,h l (by simp[Op.operands])]
  cases m<;>simp only[L0,hx,j,o]
 case makeFunc fn first cap=>
  simp only[L0,A2x (l:=first.toList) (fun x hx=>h x (by simp[Op.operands];exact .inl (by simpa using hx))),A2x (l:=cap.toList) (fun x hx=>h x (by simp[Op.operands];exact .inr (by simpa using hx)))]
 case call cc=>
  obtain⟨callee,args,g⟩:=cc;cases callee with
  |value f=>simp[J1]at hc
  |invoke r m=>simp[J1]at hc
  |builtin b=>
   have i: ∀x∈args.toList,ev x=ev' x:=fun x hx=>h x (by simp[Op.operands,Call.operands]at*;exact hx);cases b<;>try(simp[J1]at hc;done)
   case len=>
    simp only[L0];cases h1:g[0]? with
    |none=>rfl
    |some t=>
     cases p:args[0]? with
     |none=>rfl
     |some x=>simp only[i x (by rw[D1F];exact Array.mem_of_getElem? p)]
   case cap=>
    simp only[L0];cases h1:g[0]? with
    |none=>rfl
    |some t=>
     cases p:args[0]? with
     |none=>rfl
     |some x=>simp only[Option.map_some,i x (by rw[D1F];exact Array.mem_of_getElem? p)]
   case min=>simp only[L0,A2x i]
   case max=>simp only[L0,A2x i]
 all_goals first
  |rfl
  |(simp only[Op.operands,Array.toList_toArray,D02,D03,or_false,d,e]at h;simp only[L0,h];done)
  |(simp only[Op.operands]at h;simp at h;simp only[L0,h];done)
  |(simp[J1]at hc;done)
theorem U5{op:Op}(hc:J1 P op= .pure):q9 P c bl ev H op=(L0 P ev op).map fun d=>val d []:=if_pos hc
theorem I7{op:Op}(hc:J1 P op≠ .pure):q9 P c bl ev H op=I5 P c bl ev H op:=if_neg hc
theorem z8{op:Op}(h: ∀x∈op.operands.toList,ev x=ev' x):q9 P c bl ev H op=q9 P c bl ev' H op:=by
 by_cases hc:J1 P op= .pure
 ·rw[U5 hc,U5 hc,A1x hc h]
 ·rw[I7 hc,I7 hc];cases op
  case load t x=>simp only[I5,h x (by simp[Op.operands])]
  case lookup t m k ok=>simp only[I5,h m (by simp[Op.operands]),h k (by simp[Op.operands])]
  case box t x=>simp only[I5,h x (by simp[Op.operands])]
  case makeSlice t l c=>simp only[I5,h l (by simp[Op.operands]),h c (by simp[Op.operands])]
  case buildSlice t n parts=>simp only[I5,A52 (ev:=ev) (ev':=ev') (l:=parts.toList) (fun x hx=>h x (by simpa [Op.operands]using hx))]
  case store t a x=>simp only[I5,h a (by simp[Op.operands]),h x (by simp[Op.operands])]
  case call cc=>
   obtain⟨callee,args,e⟩:=cc;cases callee with
   |value f=>
    have g:=h f (by simp[Op.operands,Call.operands]);have i:=A2x (ev:=ev) (ev':=ev') (l:=args.toList) (fun x hx=>h x (by simp[Op.operands,Call.operands];exact .inr (by simpa using hx)));simp only[I5,g,i]
   |invoke r m=>simp[I5]
   |builtin b=>
    cases b
    case append=>
     unfold I5;simp only;split
     ·rename_i t j s x h1 d;rw[h s (by simp[Op.operands,Call.operands,←D1F,d]),h x (by simp[Op.operands,Call.operands,←D1F,d])]
     ·rfl
    all_goals rfl
  case makeMap t r=>cases r<;>simp[I5]
  all_goals first
   |rfl
theorem s9{op:Op}(h: ∀x∈op.operands.toList,ev x=ev' x):O8 P c bl ev H op=O8 P c bl ev' H op:=by
 cases op
 case call cc=>
  obtain⟨callee,args,d⟩:=cc;cases callee with
  |value f=>
   have e:=h f (by simp[Op.operands,Call.operands]);have g:=A2x (ev:=ev) (ev':=ev') (l:=args.toList) (fun x hx=>h x (by simp[Op.operands,Call.operands];exact .inr (by simpa using hx)));simp only[O8,e,g]
  |_=>rfl
 all_goals rfl
def B2l(ev:Operand→D)(op:Op):List Nat:=op.operands.toList.flatMap fun x=>rdB (ev x)
theorem M9{op:Op}{x:Operand}{b:Nat}(hx:x∈op.operands.toList)(hb:b∈rdB (ev x)):b∈B2l ev op:=List.mem_flatMap.2 ⟨x,hx,hb⟩
theorem A9s{sz:Nat}{x:D}{es:List (List D)}(h:M0 H sz x=some es)(d: ∀b∈T0 x,H' b=H b):M0 H' sz x=some es:=by
 cases x<;>simp only[M0]at h⊢ <;>try exact h
 rename_i b s lo n;rw[d b (by simp[T0])];exact h
theorem A7L{x:D}{cs:List D}(h:A38 H x=some cs)(d: ∀b∈rdB x,H' b=H b):A38 H' x=some cs:=by
 cases x<;>simp only[A38]at h⊢ <;>try exact h
 all_goals (rw[d _ (by simp[rdB])];exact h)
theorem B33{x:D}{kvs:List (D×D)}(h:Y6 H x=some kvs)(d: ∀b∈rdB x,H' b=H b):Y6 H' x=some kvs:=by
 cases x<;>simp only[Y6]at h⊢ <;>try exact h
 all_goals (rw[d _ (by simp[rdB])];exact h)
theorem A2y{op:Op}{e:Ef}(h:q9 P c bl ev H op=some e)(q: ∀b,b∈e.rd∨b∈e.del→H' b=H b):q9 P c bl ev H' op=some e:=by
  by_cases hc:J1 P op= .pure
  · rw[U5 hc]at h⊢;exact h
  · rw[I7 hc]at h⊢
    cases op
    case load t x=>
      simp only[I5,D0j]at h⊢;obtain⟨d,g,rfl⟩:=h;refine⟨d,?_,rfl⟩;unfold y9 at g⊢;obtain⟨s,hs,g⟩:=D0m.1 g;obtain⟨cs,u,g⟩:=D0m.1 g;rw[hs,D04,A7L u (fun b hb=>q b (.inl hb))];exact g
    case lookup t m k ok=>
      simp only[I5,D0j]at h⊢;obtain⟨d,g,rfl⟩:=h;refine⟨d,?_,rfl⟩;unfold A1O at g⊢;obtain⟨T,U,g⟩:=D0m.1 g;rw[U,D04];split at g
      · rename_i hk
        rw[if_pos hk];obtain⟨z,X,g⟩:=D0m.1 g;obtain⟨kvs,I,g⟩:=D0m.1 g;rw[X,D04,B33 I (fun b hb=>q b (.inl hb))];exact g
      · cases g
    case alloc t=>exact h
    case box t x=>exact h
    case makeSlice t l c=>exact h
    case buildSlice t n parts=>exact h
    case store t a x=>
      simp only[I5,q8]at h⊢;obtain⟨Y,hs,h⟩:=D0m.1 h
      have key: ∀b,(ev a= .box b 0∨True)→rdB (ev a)= [b]→H' b=H b→∃O,Z2 P t (ev a) (ev x) H'=some O∧O b=Y b:=by
        intro b _ J hb;unfold Z2 at hs⊢;split at hs
        · rename_i j
          rw[if_pos j];split at hs
          · rename_i L off y
            have : L = b := by have:rdB (ev a)= [L]:=by rw[y];rfl
                               rw[J]at this;simpa using this.symm
            subst this;rw[hb];split at hs
            · rename_i cs Z u
              split at hs
              · rename_i A
                cases hs;refine⟨_,by rw[if_pos A],?_⟩;simp[Heap.set]
              · cases hs
            · cases hs
          · rename_i L sz i off y
            have : L = b := by have:rdB (ev a)= [L]:=by rw[y];rfl
                               rw[J]at this;simpa using this.symm
            subst this;rw[hb];split at hs
            · rename_i sz' es u
              split at hs
              · rename_i A
                cases hs;refine⟨_,by rw[if_pos A],?_⟩;simp[Heap.set]
              · cases hs
            · cases hs
          · cases hs
        · cases hs
      cases C:ev a with
      |box b off=>
        rw[C]at h;simp only at h;obtain⟨o,ho,rfl⟩:=D0j.1 h;obtain⟨O,G,V⟩:=key b (.inr trivial) (by rw[C];rfl) (q b (.inr (by simp)));rw[C]at G;rw[G,D04];simp only[V,ho,Option.map_some]
      |el b sz i off=>
        rw[C]at h;simp only at h;obtain⟨o,ho,rfl⟩:=D0j.1 h;obtain⟨O,G,V⟩:=key b (.inr trivial) (by rw[C];rfl) (q b (.inr (by simp)));rw[C]at G;rw[G,D04];simp only[V,ho,Option.map_some]
      |_=>rw[C]at h;simp at h
    case call cc=>
      obtain⟨callee,args,a0⟩:=cc;cases callee with
      |value f=>exact h
      |invoke r m=>simp[I5]at h
      |builtin b=>
        cases b
        case append=>
          unfold I5 at h⊢;simp only at h⊢;split at h
          · rename_i t t' s x h1 G
            unfold B1d at h⊢;obtain⟨T,U,h⟩:=D0m.1 h;rw[U,D04];split at h
            · rename_i j
              rw[if_pos j];obtain⟨xs,W,h⟩:=D0m.1 h;have hx: ∀b,b∈T0 (ev x)→(b∈e.rd∨b∈e.del)→H' b=H b:=fun b _ hb=>q b hb
              have M: ∀b∈T0 (ev x),b∈e.rd∨b∈e.del:=by
                intro b hb;split at h
                · split at h
                  · cases h
                    by_cases p:b∈bl
                    · exact .inl (s8.2 ⟨hb,p⟩)
                    · exact .inr (T3.2 ⟨hb,p⟩)
                  · cases h
                · split at h
                  · split at h
                    · cases h
                      by_cases p:b∈bl
                      · exact .inl (s8.2 ⟨hb,p⟩)
                      · exact .inr (D0s _ (T3.2 ⟨hb,p⟩))
                    · cases h
                  · cases h
                · cases h
              rw[A9s W (fun b hb=>q b (M b hb)),D04];cases hs:ev s with
              |vec b sz' lo n=>
                rw[hs]at h;simp only at h⊢
                have hb:H' b=H b:=by
                  split at h
                  · split at h
                    · cases h;exact q b (.inr (by simp))
                    · cases h
                  · cases h
                rw[hb];exact h
              |_=>rw[hs]at h;exact h
            · cases h
          · cases h
        all_goals cases h
    case makeMap t r=>
      cases r with
      |none=>exact h
      |some r=>simp[I5]at h
    all_goals cases h
theorem A3W{op:Op}{e:Ef}(h:O8 P c bl ev H op)(hr:q9 P c bl ev H op=some e)(hro: ∀k cs,H' k=some (.ro cs)→H k=some (.ro cs))(d: ∀k cs,H k=some (.ro cs)→H' k=some (.ro cs))(j: ∀b,b∈e.rd∨b∈e.del→H' b=H b):O8 P c bl ev H' op:=by
 cases op
 case call cc=>
  obtain⟨callee,args,m⟩:=cc;cases callee with
  |value f=>
   rw[I7 (by simp[J1])]at hr;simp only[O8,I5]at h hr⊢;split at h
   ·rename_i g first cap hf
    rw[hf]at hr;simp only[D1C]at hr;subst hr;intro o h1 p;refine h o (fun k cs hk=>h1 k cs (d k cs hk)) (fun b hb=>?_);rw[p b hb];by_cases i:b∈bl
    ·exact j b (.inl (s8.2 ⟨hb,i⟩))
    ·exact j b (.inr (T3.2 ⟨hb,i⟩))
   ·exact h
  |_=>exact h
 all_goals exact h
theorem B34{op:Op}{e:Ef}(h:q9 P c bl ev H op=some e): ∀b,b∈e.rd∨b∈e.del→b∈B2l ev op:=by
 by_cases hc:J1 P op= .pure
 ·rw[U5 hc]at h;obtain⟨d,_,rfl⟩:=D0j.1 h;intro b hb;simp[val]at hb
 ·rw[I7 hc]at h;cases op
  case load t x=>
   simp only[I5,D0j]at h;obtain⟨d,j,rfl⟩:=h;intro b hb;simp[val]at hb;exact M9 (x:=x) (by simp[Op.operands]) hb
  case lookup t m k ok=>
   simp only[I5,D0j]at h;obtain⟨d,j,rfl⟩:=h;intro b hb;simp[val]at hb;exact M9 (x:=m) (by simp[Op.operands]) hb
  case alloc t=>
   simp only[I5,D0j]at h;obtain⟨d,j,rfl⟩:=h;intro b hb;simp[A0y]at hb
  case box t x=>
   simp only[I5]at h;split at h
   ·cases h;intro b hb;simp[A0y]at hb
   ·cases h
  case makeSlice t l c=>
   simp only[I5]at h;obtain⟨_,_,_,_,_,_,_,_,_,_,_,_,_,_,_,_,_,_,rfl⟩:=A5Q h;intro b hb;simp[A0y]at hb
  case buildSlice t n parts=>
   simp only[I5,bsE]at h;obtain⟨T,G,h⟩:=D0m.1 h;split at h
   ·obtain⟨z,L,h⟩:=D0m.1 h;split at h
    ·obtain⟨es,I,rfl⟩:=D0j.1 h;intro b hb;simp[A0y]at hb
    ·cases h
   ·cases h
  case store t a x=>
   simp only[I5,q8]at h;obtain⟨M,hs,h⟩:=D0m.1 h;cases q:ev a with
   |box b off=>
    rw[q]at h;simp only at h;obtain⟨o,ho,rfl⟩:=D0j.1 h;intro k hk;simp at hk;subst hk;exact M9 (x:=a) (by simp[Op.operands]) (by rw[q];simp[rdB])
   |el b sz i off=>
    rw[q]at h;simp only at h;obtain⟨o,ho,rfl⟩:=D0j.1 h;intro k hk;simp at hk;subst hk;exact M9 (x:=a) (by simp[Op.operands]) (by rw[q];simp[rdB])
   |_=>rw[q]at h;simp at h
  case call cc=>
   obtain⟨callee,args,u⟩:=cc;cases callee with
   |value f=>
    simp only[I5]at h;split at h
    ·rename_i g first cap hf
     cases h;intro b hb;have y:b∈(first++args.toList.map ev++cap).flatMap T0:=by
      rcases hb with hb|hb
      ·exact(s8.1 hb).1
      ·exact(T3.1 hb).1
     obtain⟨d,j,p⟩:=List.mem_flatMap.1 y;simp only[D00,D1Y]at j;rcases j with(j|⟨x,hx,rfl⟩)|j
     ·exact M9 (x:=f) (by simp[Op.operands,Call.operands]) (by rw[hf];exact List.mem_flatMap.2 ⟨d,by simp[j],p⟩)
     ·exact M9 (x:=x) (by simp[Op.operands,Call.operands];exact .inr (by simpa using hx)) (A1w p)
     ·exact M9 (x:=f) (by simp[Op.operands,Call.operands]) (by rw[hf];exact List.mem_flatMap.2 ⟨d,by simp[j],p⟩)
    ·cases h
   |invoke r m=>simp[I5]at h
   |builtin b=>
    cases b
    case append=>
     unfold I5 at h;simp only at h;split at h
     ·rename_i t O s x h1 C;have hs:s∈(Op.call ⟨.builtin .append,args,u⟩).operands.toList:=by simp[Op.operands,Call.operands,←D1F,C]
      have hx:x∈(Op.call ⟨.builtin .append,args,u⟩).operands.toList:=by simp[Op.operands,Call.operands,←D1F,C]
      unfold B1d at h;obtain⟨T,G,h⟩:=D0m.1 h;split at h
      ·obtain⟨xs,J,h⟩:=D0m.1 h;split at h
       ·split at h
        ·cases h;intro b hb;rcases hb with hb|hb
         ·exact M9 hx (A1w (s8.1 hb).1)
         ·exact M9 hx (A1w (T3.1 hb).1)
        ·cases h
       ·rename_i U sz' lo n A;split at h
        ·split at h
         ·cases h;intro b hb;rcases hb with hb|hb
          ·exact M9 hx (A1w (s8.1 hb).1)
          ·rcases D02.1 hb with rfl|hb
           ·exact M9 hs (by rw[A];simp[rdB])
           ·exact M9 hx (A1w (T3.1 hb).1)
         ·cases h
        ·cases h
       ·cases h
      ·cases h
     ·cases h
    all_goals cases h
  case makeMap t r=>
   cases r with
   |none=>simp only[I5,D1C]at h;subst h;intro b hb;simp[A0y]at hb
   |some r=>simp[I5]at h
  all_goals cases h
abbrev Kf:=FEnv→Heap→(Nat→Prop)→Prop
def I2(gs:List (Option Nat))(j:Nat):Option Nat:=(gs[j]?).getD none
def A1y(E:Env)(s:Option Nat)(want:Bool)(run skip:Env→Prop):Prop:=match s with
 |none=>skip E
 |some s=>(E.get s= .tuple []∧skip E)∨∃b,E.get s= .bool b∧(b=want→run ((s,.bool want)::E))∧(b= !want→skip ((s,.bool (!want))::E))
def A1z(gs:List (Option Nat))(F:FEnv):Option (Nat×Bool)→Option Bool
 |none=>some true
 |some (j,want)=>match I2 gs j with
  |none=>some false
  |some s=>match F s with
   | .tuple []=>some false
   | .bool b=>some (b==want)
   |_=>none
def A0W(P:Program)(c:CR)(bl:Bl)(o:Oper)(K:Kf):Kf:=fun F H U=>∃e,q9 P c bl.l F.ev H o.op=some e∧A51 bl H e∧O8 P c bl.l F.ev H o.op∧
 ∀b,e.okB b U→K (F.put o.dst (e.val b)) (e.app b H) (e.used b U)
def A0X(P:Program)(gs:List (Option Nat))(c:CR)(bl:Bl)(o:Oper)(K:Kf):Kf:=fun F H U=>(A1z gs F o.guard=some true∧A0W P c bl o K F H U)∨(A1z gs F o.guard=some false∧K (F.put o.dst (.tuple [])) H U)
theorem A1R{o:Oper}{K d:Kf}{F:FEnv}{H:Heap}{U:Nat→Prop}(h: ∀v H U,K (F.put o.dst v) H U→d (F.put o.dst v) H U)(hk:A0W P c bb o K F H U):A0W P c bb o d F H U:=
 let ⟨e,h2,h3,h4,h5⟩:=hk;⟨e,h2,h3,h4,fun b hb=>h _ _ _ (h5 b hb)⟩
theorem A1S{d:List (Option Nat)}{o:Oper}{K e:Kf}(h: ∀F H U,K F H U→e F H U){F:FEnv}{H:Heap}{U:Nat→Prop}(hk:A0X P d c bb o K F H U):A0X P d c bb o e F H U:=
 hk.imp (fun hk=>⟨hk.1,A1R (fun _ _ _=>h _ _ _) hk.2⟩) fun hk=>⟨hk.1,h _ _ _ hk.2⟩
theorem C2M{F:FEnv}{dst:Option Tmp}{d:D}{x:Operand}(h: ∀t,dst=some t→x≠ .tmp t):(F.put dst d).ev x=F.ev x:=by
 cases dst with
 |none=>rfl
 |some t=>
  cases x with
  |tmp u=>
   have:t≠u:=fun e=>h t rfl (by rw[e]);simp[FEnv.ev,FEnv.put,this]
  |_=>rfl
theorem Q5{F:FEnv}{ops:Array Oper}{o:Oper}{dst:Option Tmp}{d:D}(h: ∀t,dst=some t→t∉o.looksAt ops): ∀x∈o.op.operands.toList,(F.put dst d).ev x=F.ev x:=fun x hx=>
 C2M fun t g e=>h t g (by subst e;exact List.mem_append_left _ (List.mem_filterMap.2 ⟨.tmp t,hx,rfl⟩))
theorem A10{F:FEnv}{x y:Option Tmp}{d d':D}(h: ∀t,x=some t→y≠some t):(F.put x d).put y d'=(F.put y d').put x d:=by
 funext k
 cases x with
 |none=>rfl
 |some t=>
  cases y with
  |none=>rfl
  |some u=>
   have:t≠u:=fun e=>h t rfl (by rw[e]);simp only[FEnv.put];by_cases h1:t=k<;>by_cases g:u=k<;>simp[h1,g];exact absurd (h1.trans g.symm) this
structure Dom(H:Heap)(U:Nat→Prop):Prop where
 dom: ∀b,H b≠none→U b
 fin: ∀l:List Nat,∃b,¬U b∧b∉l
theorem Dom.app{H:Heap}{U:Nat→Prop}(h:Dom H U){e:Ef}{b:Nat}(hb:e.okB b U):Dom (e.app b H) (e.used b U):=by
 have hm: ∀k,(H.minus e.del) k≠none→U k:=fun k hk=>h.dom k fun i=>hk (by unfold Heap.minus;split;rfl;exact i);unfold Ef.app Ef.used;cases hn:e.new with
 |none=>exact⟨hm,h.fin⟩
 |some o=>
  refine⟨fun k hk=>?_,fun l=>?_⟩
  ·by_cases d:k=b
   ·exact .inr d
   ·simp only[Heap.set,if_neg d]at hk;exact .inl (hm k hk)
  ·obtain⟨x,h1,g⟩:=h.fin (b::l);simp only[D02,not_or]at g;exact⟨x,fun hx=>hx.elim h1 g.1,g.2⟩
theorem A2U{e:Ef}{b k:Nat}{H:Heap}(d:k∉e.del)(hb:e.new≠none→k≠b):e.app b H k=H k:=by
 unfold Ef.app;cases hn:e.new with
 |none=>simp[Heap.minus,d]
 |some o=>simp[Heap.set,Heap.minus,d,hb (by rw[hn];simp)]
theorem B5X{e:Ef}{b k:Nat}{H:Heap}{cs:List D}(h:A51 bb H e)(hk:e.app b H k=some (.ro cs)):H k=some (.ro cs):=by
 unfold Ef.app at hk;have hm:(H.minus e.del) k=some (.ro cs)→H k=some (.ro cs):=fun hk=>by
  unfold Heap.minus at hk;split at hk
  ·cases hk
  ·exact hk
 cases hn:e.new with
 |none=>rw[hn]at hk;exact hm hk
 |some o=>
  rw[hn]at hk;simp only[Heap.set]at hk;split at hk
  ·cases hk;have:=h.new _ hn;simp[Obj.rw]at this
  ·exact hm hk
theorem B2m{e:Ef}{b k:Nat}{H:Heap}{U:Nat→Prop}{cs:List D}(h:A51 bb H e)(j: ∀b,H b≠none→U b)(hb:e.okB b U)(hk:H k=some (.ro cs)):e.app b H k=some (.ro cs):=by
 have i:k∉e.del:=fun i=>by have:=(h.del k i).2;rw[hk]at this;simp[B1c,Obj.rw]at this
 rw[A2U i fun hn he=>?_]
 ·exact hk
 ·subst he;unfold Ef.okB at hb;cases d:e.new with
  |none=>exact hn d
  |some o=>
   rw[d]at hb;cases g:e.at_ with
   |none=>
    rw[g]at hb;rcases hb with hb|hb
    ·exact hb (j k (by rw[hk];simp))
    ·exact i hb
   |some c=>
    rw[g]at hb;subst hb;exact i (h.at_ _ g)
theorem B5Y{i j:Ef}{bi e:Nat}{H:Heap}(h1: ∀b∈i.del,b∉j.del)(g:i.new≠none→j.new≠none→bi≠e)(h:i.new≠none→bi∉j.del)(d:j.new≠none→e∉i.del):j.app e (i.app bi H)=i.app bi (j.app e H):=by
 funext k
 unfold Ef.app;cases q:i.new with
 |none=>
  cases m:j.new with
  |none=>simp only[Heap.minus];by_cases x:k∈i.del<;>by_cases y:k∈j.del<;>simp[x,y]
  |some o=>
   rw[m]at d;have d:=d (by simp);simp only[Heap.minus,Heap.set];by_cases z:k=e
   ·subst z;simp[d]
   ·by_cases x:k∈i.del<;>by_cases y:k∈j.del<;>simp[x,y,z]
 |some r=>
  rw[q]at g h;have h:=h (by simp);cases m:j.new with
  |none=>
   simp only[Heap.minus,Heap.set];by_cases z:k=bi
   ·subst z;simp[h]
   ·by_cases x:k∈i.del<;>by_cases y:k∈j.del<;>simp[x,y,z]
  |some o=>
   rw[m]at g d;have d:=d (by simp);have g:=g (by simp) (by simp);simp only[Heap.minus,Heap.set];by_cases z:k=bi
   ·subst z;simp[h,g]
   ·by_cases p:k=e
    ·subst p;simp[d,z]
    ·by_cases x:k∈i.del<;>by_cases y:k∈j.del<;>simp[x,y,z,p]
theorem A9t{e:Ef}{b k:Nat}{U:Nat→Prop}(h:U k):e.used b U k:=by
 unfold Ef.used;cases e.new with
 |none=>exact h
 |some o=>exact .inl h
theorem B5Z{e:Ef}{b:Nat}{U:Nat→Prop}(h:e.new≠none):e.used b U b:=by
 unfold Ef.used;cases hn:e.new with
 |none=>exact absurd hn h
 |some o=>exact .inr rfl
theorem used_inv{e:Ef}{b k:Nat}{U:Nat→Prop}(h:e.used b U k):U k∨(e.new≠none∧k=b):=by
 unfold Ef.used at h;cases hn:e.new with
 |none=>rw[hn]at h;exact .inl h
 |some o=>rw[hn]at h;exact h.imp id fun h=>⟨by simp,h⟩
theorem B35{i j:Ef}{bi d:Nat}{U:Nat→Prop}:j.used d (i.used bi U)=i.used bi (j.used d U):=by
 unfold Ef.used;cases i.new<;>cases j.new<;>try rfl
 funext k
 apply propext;simp only[or_assoc,or_comm (a:=k=bi)]
def A0z(P:Program)(oi oj:Op):Bool:=(!A1K oi||J1 P oj== .pure)&&(!A1K oj||J1 P oi== .pure)
theorem A9u{o:Op}{e:Ef}{ev:Operand→D}{H:Heap}(h:q9 P c bl ev H o=some e)(hs:A1K o=false):e.at_=none:=by
 by_cases hc:J1 P o= .pure
 ·rw[U5 hc]at h;obtain⟨d,_,rfl⟩:=D0j.1 h;rfl
 ·rw[I7 hc]at h;cases o
  case load t x=>simp only[I5,D0j]at h;obtain⟨d,_,rfl⟩:=h;rfl
  case lookup t m k ok=>simp only[I5,D0j]at h;obtain⟨d,_,rfl⟩:=h;rfl
  case alloc t=>simp only[I5,D0j]at h;obtain⟨d,_,rfl⟩:=h;rfl
  case box t x=>simp only[I5]at h;split at h<;>cases h;rfl
  case makeSlice t l c=>
   simp only[I5]at h;obtain⟨_,_,_,_,_,_,_,_,_,_,_,_,_,_,_,_,_,_,rfl⟩:=A5Q h;rfl
  case buildSlice t n parts=>
   simp only[I5,bsE]at h;obtain⟨T,g,h⟩:=D0m.1 h;split at h
   ·obtain⟨z,q,h⟩:=D0m.1 h;split at h
    ·obtain⟨es,i,rfl⟩:=D0j.1 h;rfl
    ·cases h
   ·cases h
  case store t a x=>simp[A1K]at hs
  case call cc=>
   obtain⟨callee,args,j⟩:=cc;cases callee with
   |value f=>
    simp only[I5]at h;split at h<;>cases h;rfl
   |invoke r m=>simp[I5]at h
   |builtin b=>
    cases b
    case append=>
     unfold I5 at h;simp only at h;split at h
     ·unfold B1d at h;obtain⟨T,g,h⟩:=D0m.1 h;split at h
      ·obtain⟨xs,p,h⟩:=D0m.1 h;split at h
       ·split at h<;>cases h;rfl
       ·split at h
        ·split at h<;>cases h;rfl
        ·cases h
       ·cases h
      ·cases h
     ·cases h
    all_goals cases h
  case makeMap t r=>
   cases r with
   |none=>simp only[I5,D1C]at h;subst h;rfl
   |some r=>simp[I5]at h
  all_goals cases h
theorem A2V{o:Op}{e:Ef}{ev:Operand→D}{H:Heap}(h:q9 P c bl ev H o=some e)(hc:J1 P o= .pure):e.rd= []∧e.del= []∧e.new=none:=by
 rw[U5 hc]at h;obtain⟨d,_,rfl⟩:=D0j.1 h;exact⟨rfl,rfl,rfl⟩
theorem B1e{ops:Array Oper}{X oj:Oper}{ci cj:CR}{K:Kf}{F:FEnv}{H:Heap}{U:Nat→Prop}(c6:X.apart ops oj=true)(G:A0z P X.op oj.op=true)(hB:A4H Bi Bj)(hD:Dom H U)
  (h:A0W P ci Bi X (A0W P cj Bj oj K) F H U):A0W P cj Bj oj (A0W P ci Bi X K) F H U:=by
 obtain⟨c7,a9⟩:=hB;obtain⟨a1,a2,a3⟩:=Oper.apart_spec c6;obtain⟨j,ri,m,Y,hi⟩:=h;simp only[A0z,D0n,D1x,Bool.not_eq_true',beq_iff_eq]at G
 --a name for the first one's block that the second one does not name
 obtain⟨I,b1,b2⟩: ∃I,j.okB I U∧(j.new≠none→j.at_=none→I∉B2l F.ev oj.op∧¬U I):=by
  obtain⟨x,b3,c8⟩:=hD.fin (B2l F.ev oj.op);cases hn:j.new with
  |none=>exact⟨x,by unfold Ef.okB;rw[hn];trivial,fun h=>absurd rfl h⟩
  |some o=>
   cases q:j.at_ with
   |none=>exact⟨x,by unfold Ef.okB;rw[hn,q];exact .inl b3,fun _ _=>⟨c8,b3⟩⟩
   |some y=>exact⟨y,by unfold Ef.okB;rw[hn,q],fun _ h=>by cases h⟩
 have O: ∀y,j.at_=some y→J1 P oj.op= .pure:=fun y hy=>by
  rcases G.1 with h|h
  ·rw[A9u ri h]at hy;cases hy
  ·exact h
 obtain⟨p,rj,u,a0,_⟩:=hi I b1;have C:q9 P cj Bj.l F.ev (j.app I H) oj.op=some p:=by rw[←rj];exact(z8 (Q5 a1)).symm
 have c9:O8 P cj Bj.l F.ev (j.app I H) oj.op:=by rw[←s9 (Q5 (F:=F) (d:=j.val I) a1)];exact a0
 have b4: ∀y,p.at_=some y→J1 P X.op= .pure:=fun y hy=>by
  rcases G.2 with h|h
  ·rw[A9u C h]at hy;cases hy
  ·exact h
 --what the second one names,the first one lets be
 have b6: ∀b,b∈p.rd∨b∈p.del→j.new≠none→b≠I:=fun b hb hn he=>by
  subst he;cases q:j.at_ with
  |none=>exact(b2 hn q).1 (B34 C b hb)
  |some y=>
   obtain⟨e1,e2,_⟩:=A2V C (O y q);rw[e1,e2]at hb;simp at hb
 have J: ∀b∈p.del,b∉j.del:=fun b hb e=>by
  have h1:=(u.del b hb).2;have h2:j.app I H b=none:=by
   unfold Ef.app;cases hn:j.new with
   |none=>simp[Heap.minus,e]
   |some o=>simp[Heap.set,Heap.minus,e,b6 b (.inr hb) (by rw[hn];simp)]
  rw[h2]at h1;cases h1
 have a4: ∀b∈p.rd,b∉j.del:=fun b hb e=>by
  cases q:j.at_ with
  |none=>
   have V:=c7 b (u.rd b hb).1.1 (u.rd b hb).2;rcases(m.del b e).1 q with g|g
   ·exact g V.1
   ·exact V.2 g
  |some y=>rw[(A2V C (O y q)).1]at hb;cases hb
 have z: ∀b,b∈p.rd∨b∈p.del→j.app I H b=H b:=fun b hb=>A2U (hb.elim (a4 b) (J b)) (b6 b hb);have b7:q9 P cj Bj.l F.ev H oj.op=some p:=A2y C fun b hb=>(z b hb).symm;have r:A51 Bj H p:=⟨fun b hb=>⟨⟨(u.rd b hb).1.1,by rw[←z b (.inl hb)];exact(u.rd b hb).1.2⟩,(u.rd b hb).2⟩,fun b hb=>⟨(u.del b hb).1,by rw[←z b (.inr hb)];exact(u.del b hb).2⟩,u.new,u.at_⟩
 have d0:O8 P cj Bj.l F.ev H oj.op:=A3W c9 C (fun k cs hk=>B2m m hD.dom b1 hk) (fun k cs hk=>B5X m hk) (fun b hb=>(z b hb).symm);refine⟨p,b7,r,d0,fun L i=>?_⟩
 --the first one behind the second one
 have b8: ∀b,B1c (H b)=true→U b:=fun b hb=>hD.dom b fun h=>by rw[h]at hb;cases hb
 have a5: ∀b,b∈j.rd∨b∈j.del→p.new≠none→b≠L:=fun b hb hn he=>by
  subst he;unfold Ef.okB at i;cases W:p.new with
  |none=>exact hn W
  |some o=>
   rw[W]at i;cases q:p.at_ with
   |none=>
    rw[q]at i;rcases i with i|i
    ·rcases hb with hb|hb
     ·exact i (hD.dom b (m.rd b hb).1.2)
     ·exact i (b8 b (m.del b hb).2)
    ·rcases hb with hb|hb
     ·have V:=a9 b (m.rd b hb).1.1 (m.rd b hb).2;rcases(r.del b i).1 q with g|g
      ·exact g V.1
      ·exact V.2 g
     ·exact J b i hb
   |some y=>
    obtain⟨e1,e2,_⟩:=A2V ri (b4 y q);rw[e1,e2]at hb;simp at hb
 have b9: ∀b,b∈j.rd∨b∈j.del→b∉p.del:=fun b hb i=>by
  rcases hb with hb|hb
  ·cases q:p.at_ with
   |none=>
    have V:=a9 b (m.rd b hb).1.1 (m.rd b hb).2;rcases(r.del b i).1 q with g|g
    ·exact g V.1
    ·exact V.2 g
   |some y=>rw[(A2V ri (b4 y q)).1]at hb;cases hb
  ·exact J b i hb
 have A: ∀b,b∈j.rd∨b∈j.del→p.app L H b=H b:=fun b hb=>A2U (b9 b hb) (a5 b hb);have d2:q9 P ci Bi.l (F.put oj.dst (p.val L)).ev (p.app L H) X.op=some j:=by
  rw[z8 (Q5 a3)];exact A2y ri A
 have c0:A51 Bi (p.app L H) j:=⟨fun b hb=>⟨⟨(m.rd b hb).1.1,by rw[A b (.inl hb)];exact(m.rd b hb).1.2⟩,(m.rd b hb).2⟩,fun b hb=>⟨(m.del b hb).1,by rw[A b (.inr hb)];exact(m.del b hb).2⟩,m.new,m.at_⟩
 have d3:O8 P ci Bi.l (F.put oj.dst (p.val L)).ev (p.app L H) X.op:=by
  rw[s9 (Q5 a3)];exact A3W Y ri (fun k cs hk=>B5X r hk) (fun k cs hk=>B2m r hD.dom i hk) A
 refine⟨j,d2,c0,d3,fun bi e=>?_⟩
 --the names are apart
 have c1:j.okB bi U:=by
  unfold Ef.okB at e⊢;cases hn:j.new with
  |none=>trivial
  |some o=>
   rw[hn]at e;cases q:j.at_ with
   |none=>
    rw[q]at e;exact e.imp (fun h hU=>h (A9t hU)) id
   |some y=>rw[q]at e;exact e
 have c2:j.new≠none→p.new≠none→bi≠L:=fun hn hm he=>by
  subst he;unfold Ef.okB at e;cases M:j.new with
  |none=>exact hn M
  |some o=>
   rw[M]at e;cases q:j.at_ with
   |none=>
    rw[q]at e;rcases e with e|e
    ·exact e (B5Z hm)
    ·exact a5 bi (.inr e) hm rfl
   |some y=>exact hm (A2V C (O y q)).2.2
 have c3: ∀b,b∈p.rd∨b∈p.del→j.new≠none→b≠bi:=fun b hb hn he=>by
  subst he;unfold Ef.okB at e;cases M:j.new with
  |none=>exact hn M
  |some o=>
   rw[M]at e;cases q:j.at_ with
   |none=>
    rw[q]at e;rcases e with e|e
    ·apply e;have:U b:=by
      rcases hb with hb|hb
      ·exact hD.dom b (r.rd b hb).1.2
      ·exact b8 b (r.del b hb).2
     exact A9t this
    ·exact b9 b (.inr e) (by rcases hb with hb|hb;exact absurd e (a4 b hb);exact hb)
   |some y=>
    obtain⟨e1,e2,_⟩:=A2V C (O y q);rw[e1,e2]at hb;simp at hb
 obtain⟨T,c4,d7,d8,hj⟩:=hi bi c1;have a6: ∀b,b∈p.rd∨b∈p.del→j.app bi H b=H b:=fun b hb=>A2U (hb.elim (a4 b) (J b)) (c3 b hb);have d4:T=p:=by
  rw[z8 (Q5 a1)]at c4;have:=A2y b7 a6;rw[c4]at this;exact Option.some.inj this
 subst d4;have c5:T.okB L (j.used bi U):=by
  unfold Ef.okB at i⊢;cases hn:T.new with
  |none=>trivial
  |some o=>
   rw[hn]at i;cases q:T.at_ with
   |none=>
    rw[q]at i;refine i.imp (fun h hU=>?_) id;rcases used_inv hU with hU|⟨d5,hU⟩
    ·exact h hU
    ·exact c2 d5 (by rw[hn];simp) hU.symm
   |some y=>rw[q]at i;exact i
 have:=hj L c5;rw[A10 a2,B5Y (fun b hb d6=>J b d6 hb) c2 (fun hn hb=>c3 bi (.inr hb) hn rfl) (fun hn hb=>a5 L (.inr hb) hn rfl),B35]at this;exact this
abbrev O9(ops:Array Oper):List (Option Nat):=ops.toList.map (·.dst)
theorem B2n(ops:Array Oper)(j:Nat):I2 (O9 ops) j=(ops[j]?).bind (·.dst):=by
 unfold I2;rw[D0x];cases d:ops[j]? with
 |none=>simp[d]
 |some o=>simp[d]
theorem A9v{ops:Array Oper}{F:FEnv}{o:Oper}{dst:Option Tmp}{d:D}(h: ∀t,dst=some t→t∉o.looksAt ops):A1z (O9 ops) (F.put dst d) o.guard=A1z (O9 ops) F o.guard:=by
 cases m:o.guard with
 |none=>rfl
 |some p=>
  obtain⟨j,i⟩:=p;unfold A1z;simp only[];rw[B2n];cases hs:(ops[j]?).bind (·.dst)with
  |none=>rfl
  |some s=>
   simp only[];cases dst with
   |none=>rfl
   |some t=>
    have g:t≠s:=fun e=>h t rfl (by subst e;simp[Oper.looksAt,m,hs]);simp only[FEnv.put,if_neg g]
theorem B36{ops:Array Oper}{i oj:Oper}{u A:CR}{K:Kf}{F:FEnv}{H:Heap}{U:Nat→Prop}(m:i.apart ops oj=true)(j:A0z P i.op oj.op=true)(L:A4H Bi Bj)(J:Dom H U)
  (h:A0X P (O9 ops) u Bi i (A0X P (O9 ops) A Bj oj K) F H U):A0X P (O9 ops) A Bj oj (A0X P (O9 ops) u Bi i K) F H U:=by
 obtain⟨a1,a2,a3⟩:=Oper.apart_spec m;have p: ∀v,A1z (O9 ops) (F.put i.dst v) oj.guard=A1z (O9 ops) F oj.guard:=fun v=>A9v a1;have z: ∀v,A1z (O9 ops) (F.put oj.dst v) i.guard=A1z (O9 ops) F i.guard:=fun v=>A9v a3;rcases h with⟨hr,h⟩|⟨hr,h⟩
 ·
  cases q:A1z (O9 ops) F oj.guard with
  |none=>
   exfalso;obtain⟨e,_,_,_,h5⟩:=h;obtain⟨x,hx,_⟩:=J.fin [];obtain⟨b,hb⟩: ∃b,e.okB b U:=by
    unfold Ef.okB;cases e.new with
    |none=>exact⟨x,trivial⟩
    |some o=>
     cases e.at_ with
     |none=>exact⟨x,.inl hx⟩
     |some y=>exact⟨y,rfl⟩
   rcases h5 b hb with⟨g,_⟩|⟨g,_⟩<;>rw[p,q]at g<;>cases g
  |some r=>
   cases r with
   |true=>
    have C:A0W P u Bi i (A0W P A Bj oj K) F H U:=A1R (fun v H U hk=>by
     rcases hk with⟨_,hk⟩|⟨g,_⟩
     ·exact hk
     ·rw[p,q]at g;cases g) h
    exact .inl ⟨q,A1R (fun v H U hk=>.inl ⟨by rw[z];exact hr,hk⟩) (B1e m j L J C)⟩
   |false=>
    have C:A0W P u Bi i (fun F H U=>K (F.put oj.dst (.tuple [])) H U) F H U:=A1R (fun v H U hk=>by
     rcases hk with⟨g,_⟩|⟨_,hk⟩
     ·rw[p,q]at g;cases g
     ·exact hk) h
    refine .inr ⟨q,.inl ⟨by rw[z];exact hr,?_⟩⟩;obtain⟨e,G,I,h5,g⟩:=C;exact⟨e,by rw[z8 (Q5 a3)];exact G,I,by rw[s9 (Q5 a3)];exact h5,fun b hb=>by rw[←A10 a2];exact g b hb⟩
 ·
  rcases h with⟨g,h⟩|⟨g,h⟩
  ·rw[p]at g;refine .inl ⟨g,?_⟩;obtain⟨e,G,I,h5,M⟩:=h;refine⟨e,by rw[←G];exact(z8 (Q5 a1)).symm,I,by rw[←s9 (Q5 (F:=F) (d:=.tuple []) a1)];exact h5,fun b hb=>.inr ⟨by rw[z];exact hr,?_⟩⟩;rw[←A10 a2];exact M b hb
  ·rw[p]at g;exact .inr ⟨g,.inr ⟨by rw[z];exact hr,by rw[←A10 a2];exact h⟩⟩
variable {ops:Array Oper} {md:Region.Mode} {cs:Nat→CR} {bs:Nat→Bl}
def sE(P:Program)(cs:Nat→CR)(bs:Nat→Bl)(ops:Array Oper)(i:Nat)(K:Kf):Kf:=match ops[i]? with
 |none=>K
 |some o=>A0X P (O9 ops) (cs i) (bs i) o K
def B37(P:Program)(cs:Nat→CR)(bs:Nat→Bl)(md:Region.Mode)(ops:Array Oper)(K:Kf):Nat→Array Bool→Kf
 |0,listed=>fun F H U=>Region.ready md ops listed= []∧K F H U
 |fuel+1,listed=>fun F H U=>(Region.ready md ops listed= []→K F H U)∧∀i∈Region.ready md ops listed,sE P cs bs ops i (B37 P cs bs md ops K fuel (listed.setIfInBounds i true)) F H U
theorem B1f{e:Ef}{H:Heap}{U:Nat→Prop}(d:Dom H U): ∃b,e.okB b U:=by
 obtain⟨x,hx,_⟩:=d.fin [];unfold Ef.okB;cases e.new with
 |none=>exact⟨x,trivial⟩
 |some o=>
  cases e.at_ with
  |none=>exact⟨x,.inl hx⟩
  |some y=>exact⟨y,rfl⟩
theorem B38{o:Oper}{K:Kf}{F:FEnv}{H:Heap}{U:Nat→Prop}(d:Dom H U)(h:A0W P c bb o K F H U):A0W P c bb o (fun F H U=>Dom H U∧K F H U) F H U:=
 let ⟨e,h2,h3,h4,h5⟩:=h;⟨e,h2,h3,h4,fun b hb=>⟨d.app hb,h5 b hb⟩⟩
theorem A9w{d:List (Option Nat)}{o:Oper}{F:FEnv}{H:Heap}{U:Nat→Prop}(g:Dom H U)(h:A0X P d c bb o (fun _ _ _=>False) F H U):False:=by
 rcases h with⟨_,e,_,_,_,h5⟩|⟨_,h⟩
 ·obtain⟨b,hb⟩:=B1f (e:=e) g;exact h5 b hb
 ·exact h
theorem A7M{d:List (Option Nat)}{o:Oper}{K:Kf}{F:FEnv}{H:Heap}{U:Nat→Prop}(e:Dom H U)(h:A0X P d c bb o K F H U):A0X P d c bb o (fun F H U=>Dom H U∧K F H U) F H U:=
 h.imp (fun h=>⟨h.1,B38 e h.2⟩) fun h=>⟨h.1,e,h.2⟩
theorem B1g{K:Kf}{i:Nat}{q:Oper}{W:Nat→Prop}(O:ops[i]? =some q)(V:Closed md ops i W):
  ∀(fuel:Nat) (d:Array Bool) (F:FEnv) (H:Heap) (U:Nat→Prop),Dom H U→(∀j,W j→d.getD j false=false)→
   (∀j oj,ops[j]? =some oj→¬W j→d.getD j true=false→(q.apart ops oj=true∧A0z P q.op oj.op=true)∧A4H (bs i) (bs j))→
   i∈Region.ready md ops d→A0X P (O9 ops) (cs i) (bs i) q (B37 P cs bs md ops K fuel (d.setIfInBounds i true)) F H U→B37 P cs bs md ops K (fuel+1) d F H U:=by
 intro fuel
 induction fuel with
 |zero=>
  intro d F H U G _ _ hr h;refine⟨fun I=>(by rw[I]at hr;cases hr),fun j x=>?_⟩;by_cases g:j=i
  ·subst g;unfold sE;simp only[O];exact h
  ·exfalso;refine A9w G (A1S (fun F H U hk=>?_) h);have:=ready_mono x g;rw[hk.1]at this;cases this
 |succ fuel X=>
  intro d F H U G y m hr h;refine⟨fun I=>(by rw[I]at hr;cases hr),fun j x=>?_⟩;by_cases g:j=i
  ·subst g;unfold sE;simp only[O];exact h
  ·obtain⟨p,oj,r,_⟩:=mem_ready.1 x;have z:=V.not_ready y x g;obtain⟨⟨J,u⟩,L⟩:=m j oj r z p;have A: ∀k,W k→(d.setIfInBounds j true).getD k false=false:=fun k hk=>by
    rw[W8 (fun e:j=k=>z (by rw[e];exact hk))];exact y k hk
   have o: ∀k ok,ops[k]? =some ok→¬W k→(d.setIfInBounds j true).getD k true=false→(q.apart ops ok=true∧A0z P q.op ok.op=true)∧A4H (bs i) (bs k):=fun k ok hk M T=>by
    refine m k ok hk M ?_;by_cases C:j=k
    ·subst C;exact p
    ·rw[getD_set_ne true C]at T;exact T
   have h1:A0X P (O9 ops) (cs i) (bs i) q (A0X P (O9 ops) (cs j) (bs j) oj (B37 P cs bs md ops K fuel ((d.setIfInBounds i true).setIfInBounds j true))) F H U:=A1S (fun F H U hk=>by
    have:=hk.2 j (ready_mono x g);unfold sE at this;simp only[r]at this;exact this) h
   have Y:=A7M G (B36 J u L G h1);unfold sE;simp only[r];refine A1S (fun F H U hk=>X (d.setIfInBounds j true) F H U hk.1 A o (ready_mono hr (Ne.symm g)) ?_) Y;rw[Array.setIfInBounds_comm _ _ g];exact hk.2
def A7N(P:Program)(gs:List (Option Nat))(cs:Nat→CR)(bs:Nat→Bl)(K:Kf):Nat→List Oper→Kf
 |_,[]=>K
 |k,o::l=>A0X P gs (cs k) (bs k) o (A7N P gs cs bs K (k+1) l)
def A5R(P:Program)(ops:Array Oper)(oi oj:Oper):Bool:=oi.apart ops oj&&A0z P oi.op oj.op
def A2W(P:Program)(ops:Array Oper)(oi:Oper):List Oper→List Bool→Bool
 | [],_=>true
 |o::l,b::W=>(b||A5R P ops oi o)&&A2W P ops oi l W
 |_::_,[]=>false
def A5S(P:Program)(ops:Array Oper):Nat→List Oper→Bool
 |_,[]=>true
 |k,o::l=>(o.after.all fun e=> !Region.binds .any e||e.on<k)&&A2W P ops o l (Y7 k l [])&&A5S P ops (k+1) l
def B2o(P:Program)(ops:Array Oper):Bool:=A5S P ops 0 ops.toList
def B39:(Nat→Bl)→Nat→List Oper→Prop
 |_,_,[]=>True
 |bs,k,o::l=>(∀i,i<l.length→(Y7 k l [])[i]? ≠some true→A4H (bs k) (bs (k+1+i)))∧B39 bs (k+1) l
theorem A2z(bl:List Nat): ∀(l:List Oper) (k:Nat),B39 (fun _=>⟨bl,[],[]⟩) k l
 | [],_=>trivial
 |_::l,k=>⟨fun i _ _=>⟨fun b h _=>⟨h,(by simp)⟩,fun b h _=>⟨h,(by simp)⟩⟩,A2z bl l (k+1)⟩
theorem okRestE_at{e:Oper}: ∀(l:List Oper) (W:List Bool),A2W P ops e l W=true→∀(i:Nat) (o:Oper),l[i]? =some o→W[i]? =some true∨A5R P ops e o=true
 | [],_,_,i,o,h=>by simp at h
 |o'::l,[],h,_,_,_=>by simp[A2W]at h
 |o'::l,b::W,h,0,o,d=>by
  simp[A2W]at h d;subst d;rcases h.1 with h|h
  ·exact .inl (by simp[h])
  ·exact .inr h
 |o'::l,b::W,h,i+1,o,d=>by
  simp[A2W]at h d;simpa using okRestE_at l W h.2 i o d
theorem A9x{K:Kf}: ∀(l:List Oper) (k:Nat) (d:Array Bool),(∀j,l[j]? =ops[k+j]?)→(∀j,d.getD j false=decide (j<k))→(d.size=ops.size)→
  A5S P ops k l=true→B39 bs k l→∀F H U,Dom H U→A7N P (O9 ops) cs bs K k l F H U→B37 P cs bs .any ops K l.length d F H U:=by
 intro l
 induction l with
 |nil=>
  intro k d hl u hsz _ _ F H U _ h;refine⟨?_,h⟩;cases hr:Region.ready .any ops d with
  |nil=>rfl
  |cons x xs=>
   exfalso;have hx:x∈Region.ready .any ops d:=by rw[hr];simp
   obtain⟨O,o,ho,_⟩:=mem_ready.1 hx;have:=u x;rw[K3 O]at this;have hk:k≤x:=by simpa using this
   have:=hl (x-k);rw[show k+(x-k)=x from by omega,ho]at this;simp at this
 |cons o l ih=>
  intro k d hl u hsz T V F H U hD h;obtain⟨a5,a6⟩:=V;have O:ops[k]? =some o:=by simpa using(hl 0).symm
  have b3:k<ops.size:=(D0z.1 O).1;simp only[A5S,D0n]at T;obtain⟨⟨he,hr⟩,y⟩:=T;have z: ∀j,l[j]? =ops[k+1+j]? :=fun j=>by have:=hl (j+1);simpa [Nat.add_assoc,Nat.add_comm 1 j]using this
  have p:k∈Region.ready .any ops d:=by
   rw[mem_ready];refine⟨?_,o,O,fun e A hb=>?_⟩
   ·have:=u k;simp at this;have C:k<d.size:=by omega
    simp[C]at this⊢;exact this
   ·rw[u];rw[Array.all_eq_true_iff_forall_mem]at he;have:=he e A;simp[hb]at this;simpa using this
  have a9: ∀j,(d.setIfInBounds k true).getD j false=decide (j<k+1):=fun j=>by
   by_cases G:k=j
   ·subst G;have C:k<d.size:=by omega
    simp[C]
   ·rw[getD_set_ne false G,u];apply D1D.2;omega
  have X:(d.setIfInBounds k true).size=ops.size:=by simpa using hsz
  let W:Nat→Prop:=fun j=>j=k∨(k<j∧(Y7 k l [])[j-(k+1)]? =some true)
  have b0:Closed .any ops k W:=by
   refine⟨.inl rfl,fun j oj I Y m=>?_⟩;rcases I with I|⟨b1,I⟩
   ·exact absurd I Y
   ·have q:l[j-(k+1)]? =some oj:=by rw[z];rw[show k+1+(j-(k+1))=j from by omega];exact m
    have J:=A3U k l [] (j-(k+1)) oj q;simp only[D0h,Nat.zero_add]at J;rw[I]at J;have hw:q0 oj k ((Y7 k l []).take (j-(k+1)))=true:=by simpa using J.symm
    unfold q0 at hw;obtain⟨e,A,g⟩:=Array.any_eq_true'.1 hw;simp only[D0n,D1x,beq_iff_eq,D0w]at g;refine⟨e,A,g.1,?_⟩;rcases g.2 with h1|⟨h1,i⟩
    ·exact .inl h1
    ·refine .inr ⟨h1,?_⟩;rw[List.getD_eq_getElem?_getD]at i;cases M:((Y7 k l []).take (j-(k+1)))[e.on-(k+1)]? with
     |none=>rw[M]at i;simp at i
     |some b=>
      rw[M]at i;simp at i;subst i;rw[List.getElem?_take]at M;split at M
      ·exact M
      ·cases M
  have b2: ∀j,W j→d.getD j false=false:=fun j I=>by
   rw[u];rcases I with rfl|⟨b1,_⟩<;>simp;omega
  have L: ∀j oj,ops[j]? =some oj→¬W j→d.getD j true=false→A5R P ops o oj=true∧A4H (bs k) (bs j):=fun j oj m r hu=>by
   have h1:=u j;rw[K3 hu]at h1;have G:k≤j:=by simpa using h1
   have Y:j≠k:=fun e=>r (.inl e);have q:l[j-(k+1)]? =some oj:=by rw[z];rw[show k+1+(j-(k+1))=j from by omega];exact m
   have a0:(Y7 k l [])[j-(k+1)]? ≠some true:=fun i=>r (.inr ⟨by omega,i⟩);have a4:=a5 (j-(k+1)) (D0k.1 q).1 a0;rw[show k+1+(j-(k+1))=j from by omega]at a4;rcases okRestE_at l _ hr _ _ q with i|i
   ·exact absurd i a0
   ·exact⟨i,a4⟩
  refine B1g O b0 l.length d F H U hD b2 (fun j oj m r hu=>?_) p (A1S (fun F' H' U' h'=>ih (k+1) _ z a9 X y a6 F' H' U' h'.1 h'.2) (A7M hD h));obtain⟨h1,i⟩:=L j oj m r hu;exact⟨by simpa [A5R]using h1,i⟩
def Ef.okH(e:Ef)(b:Nat)(H:Heap):Prop:=match e.new,e.at_ with
 |none,_=>True
 |some _,some c=>b=c
 |some _,none=>H b=none∨b∈e.del
theorem C2N{e:Ef}{b:Nat}{H:Heap}{U:Nat→Prop}(g:Dom H U)(h:e.okB b U):e.okH b H:=by
 unfold Ef.okB at h;unfold Ef.okH;cases hn:e.new with
 |none=>trivial
 |some o=>
  rw[hn]at h;cases d:e.at_ with
  |none=>
   rw[d]at h;refine h.imp (fun h=>?_) id;cases hb:H b with
   |none=>rfl
   |some x=>exact absurd (g.dom b (by rw[hb];simp)) h
  |some y=>rw[d]at h;exact h
theorem F6(H:Heap):H.minus []=H:=by funext k;simp[Heap.minus]
theorem B4A{b k:Nat}:(H.del b) k=none↔k=b∨H k=none:=by unfold Heap.del;by_cases h:k=b<;>simp[h]
theorem A00{t:TypeId}{a x:D}{H':Heap}{b:Nat}(h:Z2 P t a x H=some H')(g:rdB a= [b]): ∃o,H' b=some o∧o.rw=true∧H'=H.set b o∧B1c (H b)=true:=by
 unfold Z2 at h;split at h
 ·split at h
  ·rename_i e off;obtain rfl:e=b:=by simpa [rdB]using g
   split at h
   ·rename_i cs Z d;split at h
    ·cases h;exact⟨_,by simp[Heap.set],rfl,rfl,by rw[d];rfl⟩
    ·cases h
   ·cases h
  ·rename_i e sz i off;obtain rfl:e=b:=by simpa [rdB]using g
   split at h
   ·rename_i sz' es d;split at h
    ·cases h;exact⟨_,by simp[Heap.set],rfl,rfl,by rw[d];rfl⟩
    ·cases h
   ·cases h
  ·cases h
 ·cases h
theorem d9(H:Heap)(b:Nat)(o:Obj):(H.minus [b]).set b o=H.set b o:=by
 funext k;unfold Heap.set Heap.minus
 by_cases h:k=b<;>simp[h]
theorem B8m{op:Op}{e:Ef}(h:q9 P c bl ev H op=some e)(a5:A51 bb H e)(j:O8 P c bl ev H op):
  D1 P ev H (fun d H'=>∃b,e.okH b H∧d=e.val b∧(e.app b H).Le H') op:=by
 have one: ∀{K:D→Heap→Prop} {d:D} {rd:List Nat},e=val d rd→(∃b,e.okH b H∧d=e.val b∧(e.app b H).Le H):=by
  intro K d rd he;subst he;exact⟨0,trivial,rfl,by show (H.minus []).Le H;rw[F6];exact D11 H⟩
 by_cases hc:J1 P op= .pure
 ·rw[U5 hc]at h;obtain⟨d,y,rfl⟩:=D0j.1 h;have fin: ∃d',L0 P ev op=some d'∧∃b,(val d []).okH b H∧d'=(val d []).val b∧((val d []).app b H).Le H:=⟨d,y,0,trivial,rfl,by show (H.minus []).Le H;rw[F6];exact D11 H⟩
  cases op
  case call cc=>
   obtain⟨callee,args,M⟩:=cc;cases callee with
   |value f=>simp[J1]at hc
   |invoke r m=>simp[J1]at hc
   |builtin b=>
    cases b<;>try(simp[J1]at hc;done)
    all_goals (simp only[D1,hc];exact fin)
  case convert s t x=>simp only[D1,hc];exact fin
  case load t x=>simp[J1]at hc
  case store t a x=>simp[J1]at hc
  case alloc t=>simp[J1]at hc
  case box t x=>simp[J1]at hc
  case buildSlice t n p=>simp[J1]at hc
  case makeSlice t a b=>simp[J1]at hc
  case range t x=>simp[J1]at hc
  case next x i=>simp[J1]at hc
  case makeMap t r=>simp[J1]at hc
  case lookup t m k ok=>simp[J1]at hc
  case mapUpdate t m k v=>simp[J1]at hc
  all_goals first
   |(simp only[D1,hc];exact fin)
   |(simp[J1]at hc;done)
 ·rw[I7 hc]at h;cases op
  case load t x=>
   simp only[I5,D0j]at h;obtain⟨d,y,rfl⟩:=h;exact⟨d,y,0,trivial,rfl,by show (H.minus []).Le H;rw[F6];exact D11 H⟩
  case lookup t m k ok=>
   simp only[I5,D0j]at h;obtain⟨d,y,rfl⟩:=h;exact⟨d,y,0,trivial,rfl,by show (H.minus []).Le H;rw[F6];exact D11 H⟩
  case alloc t=>
   simp only[I5,D0j]at h;obtain⟨z,O,rfl⟩:=h;exact⟨z,O,fun b hb=>⟨b,.inl hb,rfl,by show ((H.minus []).set b _).Le _;rw[F6];exact D11 _⟩⟩
  case box t x=>
   simp only[I5]at h;split at h
   ·rename_i h1;cases h;exact⟨h1,fun b hb=>⟨b,.inl hb,rfl,by show ((H.minus []).set b _).Le _;rw[F6];exact D11 _⟩⟩
   ·cases h
  case makeSlice t l c=>
   simp only[I5]at h;obtain⟨e',sz,A,z,k,n,k',m,h1,G,T,h4,h5,h6,h7,h8,h9,U,rfl⟩:=A5Q h;exact⟨e',sz,A,z,k,n,k',m,h1,G,T,h4,h5,h6,h7,h8,h9,U,fun b hb=>⟨b,.inl hb,rfl,by show ((H.minus []).set b _).Le _;rw[F6];exact D11 _⟩⟩
  case buildSlice t n parts=>
   simp only[I5,bsE]at h;obtain⟨⟨e',sz,A⟩,V,h⟩:=D0m.1 h;split at h
   ·rename_i h1;obtain⟨z,O,h⟩:=D0m.1 h;split at h
    ·rename_i G;obtain⟨es,W,rfl⟩:=D0j.1 h;exact⟨e',sz,A,z,es,V,h1.1,h1.2,O,G,W,fun b hb=>⟨b,.inl hb,rfl,by show ((H.minus []).set b _).Le _;rw[F6];exact D11 _⟩⟩
    ·cases h
   ·cases h
  case store t a x=>
   simp only[I5,q8]at h;obtain⟨H1,hs,h⟩:=D0m.1 h;refine⟨H1,hs,?_⟩;cases X:ev a with
   |box b off=>
    rw[X]at h hs;simp only at h;obtain⟨o,ho,rfl⟩:=D0j.1 h;obtain⟨o',C,_,I,_⟩:=A00 hs (b:=b) rfl;rw[ho]at C;cases C;exact⟨b,rfl,rfl,by show ((H.minus [b]).set b _).Le _;rw[d9,I];exact D11 _⟩
   |el b sz i off=>
    rw[X]at h hs;simp only at h;obtain⟨o,ho,rfl⟩:=D0j.1 h;obtain⟨o',C,_,I,_⟩:=A00 hs (b:=b) rfl;rw[ho]at C;cases C;exact⟨b,rfl,rfl,by show ((H.minus [b]).set b _).Le _;rw[d9,I];exact D11 _⟩
   |_=>rw[X]at h;simp at h
  case call cc=>
   obtain⟨callee,args,M⟩:=cc;cases callee with
   |value f=>
    simp only[I5]at h;simp only[O8]at j;simp only[D1];split at h
    ·rename_i g first cap hf
     cases h;rw[hf]at j⊢;simp only at j⊢;refine(j H (fun k cs hk=>hk) (fun b hb=>rfl)).mono fun d H' y=>?_;unfold CR.post at y;unfold Ef.okH Ef.app;cases hn:c.new with
     |none=>rw[hn]at y;exact⟨0,by simp only[hn],by simp only[CR.f,hn];exact y.1,by simp only[hn];exact y.2⟩
     |some o=>
      rw[hn]at y;obtain⟨b,h1,G,T⟩:=y;exact⟨b,by simp only[hn];exact h1,by simp only[CR.f,hn];exact G,by simp only[hn];exact T⟩
    ·cases h
   |invoke r m=>simp[I5]at h
   |builtin b=>
    cases b
    case append=>
     unfold I5 at h;simp only at h;simp only[D1];split at h
     ·rename_i t t' s x h1 G;simp only[h1,G];unfold B1d at h;obtain⟨⟨e',sz,A⟩,V,h⟩:=D0m.1 h;split at h
      ·rename_i q;simp only at q h;obtain⟨xs,Y,h⟩:=D0m.1 h;refine⟨e',sz,A,V,q.1,q.2.1,q.2.2,xs,Y,?_⟩;split at h
       ·rename_i J;split at h
        ·rename_i hx;cases h;rw[J];refine⟨hx.1,hx.2.1,fun he=>by rw[he]at hx;simp at hx,fun _ b hb=>⟨b,.inl hb,rfl,?_⟩⟩;intro k o hk;simp only[Ef.app,Heap.set]at hk⊢;split at hk
         ·rename_i u;rw[if_pos u];exact hk
         ·rename_i u;rw[if_neg u];exact A5w _ _ k o hk
        ·cases h
       ·rename_i b sz' lo n J;split at h
        ·rename_i a4 es hb;split at h
         ·rename_i hx;obtain⟨x1,x2,x3,x4,x5,x6⟩:=hx;subst x1;subst x2;subst x3;cases h;rw[J];refine⟨rfl,.inl ⟨rfl,es,hb,x4,x5,x6,fun b' a0=>⟨b',?_,rfl,?_⟩⟩⟩
          ·show H b'=none∨b'∈b::_;rcases B4A.1 a0 with h|h
           ·exact .inr (by rw[h];exact D0l ..)
           ·exact .inl h
          ·intro k o hk;simp only[Ef.app,Heap.set]at hk⊢;split at hk
           ·rename_i u;rw[if_pos u];exact hk
           ·rename_i u;rw[if_neg u];unfold Heap.minus at hk;split at hk
            ·cases hk
            ·rename_i L;simp only[D02,not_or]at L;unfold Heap.del;rw[if_neg L.1];exact hk
         ·cases h
        ·cases h
       ·cases h
      ·cases h
     ·cases h
    all_goals cases h
  case makeMap t r=>
   cases r with
   |none=>
    simp only[I5,D1C]at h;subst h;exact fun b hb=>⟨b,.inl hb,rfl,by show ((H.minus []).set b _).Le _;rw[F6];exact D11 _⟩
   |some r=>simp[I5]at h
  all_goals cases h
structure StF(N:Nat)(w0:World)(H0:Heap)(F:FEnv)(H:Heap)(U:Nat→Prop)(a:Act)(w:World):Prop where
 size:a.tmps.size=N
 defers:a.defers= []
 env: ∀i,R w H (F i) (a.eval (.tmp i))
 sat:Sat H w
 ext:Ext H0 w0 w
 frm:From w0 H0 H
 dom:Dom H U
 lt: ∀b,U b→b<w.heap.size
theorem StF.evR{N:Nat}{w0:World}{H0:Heap}{F:FEnv}{U:Nat→Prop}{a:Act}{w:World}(h:StF N w0 H0 F H U a w)(x:Operand):R w H (F.ev x) (a.eval x):=by
 cases x with
 |tmp t=>exact h.env t
 |const v=>exact A2S w H v
 |global g=>exact .glob g
 |func f=>exact .fn _ _ _ _ _ rfl rfl (by simp) (by simp)
theorem B1h{e:Ef}{b:Nat}{o:Obj}{H:Heap}(h:e.new=some o):e.app b H b=some o:=by unfold Ef.app;rw[h];simp[Heap.set]
theorem A9y{N:Nat}{w0:World}{H0:Heap}{o:Oper}{K:Kf}{F:FEnv}{U:Nat→Prop}{a:Act}{w:World}(W: ∀t,o.dst=some t→t<N)(h:A0W P c bb o K F H U)(hst:StF N w0 H0 F H U a w):
  opSem P none o a w fun v w'=>∃L H' M,StF N w0 H0 L H' M (a.put o.dst v) w'∧K L H' M:=by
 obtain⟨e,he,r,j,hk⟩:=h;refine(N5 (o:=o) hst.sat hst.evR (B8m he r j)).mono fun v w' hp=>?_;obtain⟨d,H',X,O,G,T,b,hb,rfl,g⟩:=hp;have u: ∀ob,e.new=some ob→H b=none→w.heap.size≤b:=fun ob x m=>by
  rcases Nat.lt_or_ge b w.heap.size with I|J
  ·have h1:=T b I (I1 m);have Y:=g b ob (B1h x);rw[J5 Y,r.new ob x]at h1;cases h1
  ·exact J
 have z:e.okB b U:=by
  unfold Ef.okH at hb;unfold Ef.okB;cases hn:e.new with
  |none=>trivial
  |some ob=>
   rw[hn]at hb;cases V:e.at_ with
   |none=>
    rw[V]at hb;exact hb.imp (fun m hU=>by have:=hst.lt b hU;have:=u ob hn m;omega) id
   |some y=>rw[V]at hb;exact hb
 refine⟨F.put o.dst (e.val b),e.app b H,e.used b U,?_,hk b z⟩;have p:From w H (e.app b H):=T.less g;refine⟨?_,?_,fun i=>?_,O.less g,hst.ext.trans hst.frm G,hst.frm.trans hst.ext.size p,hst.dom.app z,fun k hk=>?_⟩
 ·cases o.dst<;>simp[Act.put,hst.size]
 ·cases o.dst<;>exact hst.defers
 ·cases A:o.dst with
  |none=>exact(hst.env i).mono G p
  |some t=>
   have ht:=W t A;simp only[FEnv.put];by_cases q:t=i
   ·subst q;rw[if_pos rfl];have:(a.put (some t) v).eval (.tmp t)=v:=by
     have h':t<a.tmps.size:=by rw[hst.size];exact ht
     simp[Act.eval,Act.put,h']
    rw[this];exact X.less g
   ·rw[if_neg q];have:(a.put (some t) v).eval (.tmp i)=a.eval (.tmp i):=by
     simp[Act.eval,Act.put,D1E q]
    rw[this];exact(hst.env i).mono G p
 ·rcases used_inv hk with hk|⟨hn,rfl⟩
  ·exact D1W (hst.lt k hk) G.size
  ·cases C:e.new with
   |none=>exact absurd C hn
   |some ob=>exact O.lt (g k ob (B1h C))
theorem A4r{N:Nat}{w0:World}{H0:Heap}{F:FEnv}{H:Heap}{U:Nat→Prop}{a:Act}{w:World}{o:Oper}{r:Bool}(hst:StF N w0 H0 F H U a w)(h:A1z (O9 ops) F o.guard=some r):Region.wanted o (yielded ops a.tmps)=r:=by
 cases d:o.guard with
 |none=>rw[d]at h;cases h;simp[Region.wanted,d]
 |some p=>
  obtain⟨j,m⟩:=p;rw[d]at h;unfold A1z at h;simp only[]at h;rw[B2n]at h;cases hs:(ops[j]?).bind (·.dst)with
  |none=>
   rw[hs]at h;cases h;have e:yielded ops a.tmps j=none:=by unfold yielded;rw[hs];rfl
   simp[Region.wanted,d,e]
  |some s=>
   rw[hs]at h;simp only[]at h;have hv:=hst.env s;split at h
   ·rename_i i;cases h;rw[i]at hv;obtain⟨vs,hv,_⟩:=hv.tuple_inv;have e:yielded ops a.tmps j=none:=by
     unfold yielded;rw[hs];simp only[D04];simp only[Act.eval]at hv;cases g:a.tmps[s]? with
     |none=>rfl
     |some u=>
      simp[g]at hv;subst hv;rfl
    simp[Region.wanted,d,e]
   ·rename_i b i;cases h;rw[i]at hv;have hv:=hv.bool_inv;have e:yielded ops a.tmps j=some b:=by
     unfold yielded;rw[hs];simp only[D04];simp only[Act.eval]at hv;cases g:a.tmps[s]? with
     |none=>
      simp[g]at hv;cases hv
     |some u=>
      simp[g]at hv;subst hv;rfl
    simp[Region.wanted,d,e]
   ·cases h
theorem StF.skip{N:Nat}{w0:World}{H0:Heap}{F:FEnv}{H:Heap}{U:Nat→Prop}{a:Act}{w:World}(hst:StF N w0 H0 F H U a w){dst:Option Nat}(e: ∀t,dst=some t→t<N):StF N w0 H0 (F.put dst (.tuple [])) H U (a.put dst undef) w:=by
 refine⟨?_,?_,fun i=>?_,hst.sat,hst.ext,hst.frm,hst.dom,hst.lt⟩
 ·cases dst<;>simp[Act.put,hst.size]
 ·cases dst<;>exact hst.defers
 ·cases dst with
  |none=>exact hst.env i
  |some t=>
   have g:=e t rfl;simp only[FEnv.put];by_cases d:t=i
   ·subst d;rw[if_pos rfl];have:(a.put (some t) undef).eval (.tmp t)=undef:=by
     have h:t<a.tmps.size:=by rw[hst.size];exact g
     simp[Act.eval,Act.put,h]
    rw[this];exact .tuple [] #[] rfl (by simp)
   ·rw[if_neg d];have:(a.put (some t) undef).eval (.tmp i)=a.eval (.tmp i):=by
     simp[Act.eval,Act.put,D1E d]
    rw[this];exact hst.env i
theorem A1T{N:Nat}{w0:World}{H0:Heap}{K:Kf}{Q:Exit→Act→World→Prop}(g: ∀o∈ops.toList,∀t,o.dst=some t→t<N)
  (j: ∀F H U a w,StF N w0 H0 F H U a w→K F H U→Q .normal a w): ∀(fuel:Nat) (d:Array Bool) (F:FEnv) (H:Heap) (U:Nat→Prop) (a:Act) (w:World),
  B37 P cs bs md ops K fuel d F H U→StF N w0 H0 F H U a w→Go.wpAny P md ops Q fuel d a w
 |0,_,F,H,U,a,w,h,hst=>⟨h.1,j _ _ _ _ _ hst h.2⟩
 |fuel+1,d,F,H,U,a,w,h,hst=>⟨fun p=>j _ _ _ _ _ hst (h.1 p),fun i q=>by
   have h1:=h.2 i q;unfold sE at h1;unfold Go.wpOp;split
   ·rename_i hn;simp only[hn]at h1;exact A1T g j fuel _ _ _ _ _ _ h1 hst
   ·rename_i o ho;simp only[ho]at h1;have e:o∈ops.toList:=by rw[D1F];exact Array.mem_of_getElem? ho
    rcases h1 with⟨hr,h1⟩|⟨hr,h1⟩
    ·rw[if_pos (A4r hst hr)];exact .inl (opSem.wp ((A9y (g o e) h1 hst).mono fun v w' hv=>by
      obtain⟨r,H',u,m,hk⟩:=hv;exact A1T g j fuel _ _ _ _ _ _ hk m))
    ·rw[if_neg (by rw[A4r hst hr];exact Bool.false_ne_true)];exact A1T g j fuel _ _ _ _ _ _ h1 (hst.skip (g o e))⟩
def wpP(P:Program)(gs:List (Option Nat))(cs:Nat→CR)(bs:Nat→Bl)(K:Env→Heap→Prop):Nat→List Oper→Env→Heap→Prop
 |_,[],E,H=>K E H
 |i,o::l,E,H=>match o.guard with
  |none=>∃e,q9 P (cs i) (bs i).l E.ev H o.op=some e∧A51 (bs i) H e∧O8 P (cs i) (bs i).l E.ev H o.op∧∀b,e.okH b H→wpP P gs cs bs K (i+1) l (E.put o.dst (e.val b)) (e.app b H)
  |some (j,want)=>A1y E (I2 gs j) want
    (fun E=>∃e,q9 P (cs i) (bs i).l E.ev H o.op=some e∧A51 (bs i) H e∧O8 P (cs i) (bs i).l E.ev H o.op∧∀b,e.okH b H→wpP P gs cs bs K (i+1) l (E.put o.dst (e.val b)) (e.app b H))
    (fun E=>wpP P gs cs bs K (i+1) l (E.put o.dst (.tuple [])) H)
theorem A4I{p:List (Option Nat)}{K:Env→Heap→Prop}: ∀(l:List Oper) (i:Nat) (E:Env) (F:FEnv) (H:Heap) (U:Nat→Prop),(∀t,E.get t=F t)→Dom H U→wpP P p cs bs K i l E H→A7N P p cs bs (fun F H _=>∃E,(∀t,E.get t=F t)∧K E H) i l F H U
 | [],i,E,F,H,U,g,z,h=>⟨E,g,h⟩
 |o::l,i,E,F,H,U,g,z,h=>by
  have put: ∀(E:Env) (d:D),(∀t,E.get t=F t)→∀t,(E.put o.dst d).get t=(F.put o.dst d) t:=fun E d g t=>by
   cases o.dst with
   |none=>exact g t
   |some u=>
    simp only[Env.put,Env.get,FEnv.put];split
    ·rfl
    ·exact g t
  have y: ∀(E:Env),(∀t,E.get t=F t)→F.ev=E.ev:=fun E g=>by
   funext x
   cases x with
   |tmp t=>exact(g t).symm
   |_=>rfl
  have run: ∀(E:Env),(∀t,E.get t=F t)→(∃e,q9 P (cs i) (bs i).l E.ev H o.op=some e∧A51 (bs i) H e∧O8 P (cs i) (bs i).l E.ev H o.op∧∀b,e.okH b H→wpP P p cs bs K (i+1) l (E.put o.dst (e.val b)) (e.app b H))→
    A0W P (cs i) (bs i) o (A7N P p cs bs (fun F H _=>∃E,(∀t,E.get t=F t)∧K E H) (i+1) l) F H U:=fun E g h=>by
   obtain⟨e,he,C,q,hk⟩:=h;exact⟨e,by rw[y E g];exact he,C,by rw[y E g];exact q,fun b hb=>A4I l (i+1) (E.put o.dst (e.val b)) _ _ _ (put E _ g) (z.app hb) (hk b (C2N z hb))⟩
  have skip: ∀(E:Env),(∀t,E.get t=F t)→wpP P p cs bs K (i+1) l (E.put o.dst (.tuple [])) H→A7N P p cs bs (fun F H _=>∃E,(∀t,E.get t=F t)∧K E H) (i+1) l (F.put o.dst (.tuple [])) H U:=fun E g h=>
   A4I l (i+1) (E.put o.dst (.tuple [])) _ _ _ (put E _ g) z h
  have know: ∀(E:Env) (s:Nat) (d:D),(∀t,E.get t=F t)→E.get s=d→∀t,Env.get ((s,d)::E) t=F t:=fun E s d g hs t=>by
   simp only[Env.get];split
   ·rename_i e;subst e;rw[←hs];exact g s
   ·exact g t
  unfold wpP at h;unfold A7N;cases r:o.guard with
  |none=>
   rw[r]at h;exact .inl ⟨by rw[r];rfl,run E g h⟩
  |some J=>
   obtain⟨j,m⟩:=J;rw[r]at h;simp only[]at h;unfold A1y at h;cases hs:I2 p j with
   |none=>
    rw[hs]at h;exact .inr ⟨by rw[r];simp only[A1z,hs],skip E g h⟩
   |some s=>
    rw[hs]at h;rcases h with⟨L,h⟩|⟨b,hb,h1,M⟩
    ·have A:F s= .tuple []:=by rw[←g];exact L
     exact .inr ⟨by rw[r];simp only[A1z,hs,A],skip E g h⟩
    ·have A:F s= .bool b:=by rw[←g];exact hb
     by_cases G:b=m
     ·subst G;exact .inl ⟨by rw[r];simp only[A1z,hs,A,beq_self_eq_true],run _ (know E s _ g hb) (h1 rfl)⟩
     ·have I:b= !m:=by cases b<;>cases m<;>simp_all
      subst I;exact .inr ⟨by rw[r];simp only[A1z,hs,A];cases m<;>rfl,skip _ (know E s _ g hb) (M rfl)⟩
theorem C2O(n:Nat)(l:List Nat): ∃b,¬(b<n)∧b∉l:=by
 refine⟨n+l.sum+1,by omega,fun h=>?_⟩;have: ∀(l:List Nat) (x:Nat),x∈l→x≤l.sum:=by
  intro l
  induction l with
  |nil=>intro x hx;cases hx
  |cons y l d=>
   intro x hx;rcases D02.1 hx with rfl|hx
   ·simp
   ·have:=d x hx;simp;omega
 have:=this l _ h;omega
theorem A4J{w:World}(hs:Sat H w):Dom H (fun b=>b<w.heap.size):=⟨fun b hb=>by
 cases h:H b with
 |none=>exact absurd h hb
 |some o=>exact hs.lt h,C2O _⟩
theorem B5a{N:Nat}{w0:World}{H0:Heap}{id:Nat}{K:Env→Heap→Prop}{Q:Exit→Act→World→Prop}{a:Act}{w:World}{E:Env}(hm:P.follows .mixedOrders=true)(e:B2o P ops=true)
  (p: ∀o∈ops.toList,∀t,o.dst=some t→t<N)
  (q: ∀E H a w,a.tmps.size=N→a.defers= []→(∀i,R w H (E.get i) (a.eval (.tmp i)))→Sat H w→Ext H0 w0 w→From w0 H0 H→K E H→Q .normal a w)
  (h1:a.tmps.size=N) (r:a.defers= []) (u: ∀i,R w H (E.get i) (a.eval (.tmp i))) (x:Sat H w) (h5:Ext H0 w0 w) (m:From w0 H0 H)
  (g:B39 bs 0 ops.toList) (h:wpP P (O9 ops) cs bs K 0 ops.toList E H):(Code.region id ops true).wp P Q a w:=by
 have he:Ext H w {w with drawn:=w.drawn+1}:=Ext.drewN H w 1;have d:=x.same (w':={w with drawn:=w.drawn+1}) rfl he;refine wp_region_any hm (A1T (P:=P) (cs:=cs) (bs:=bs) (md:=.any) (ops:=ops) (K:=fun F H _=>∃E,(∀t,E.get t=F t)∧K E H) p (fun F H U a w hst hk=>?_) ops.size _ _ _ _ a {w with drawn:=w.drawn+1} ?_
  (⟨h1,r,fun i=>(u i).mono he (D17 _ _),d,h5.trans m he,m,A4J d,fun b hb=>hb⟩:StF N w0 H0 E.get H (fun b=>b<({w with drawn:=w.drawn+1}:World).heap.size) a {w with drawn:=w.drawn+1}))
 ·obtain⟨E,y,hk⟩:=hk;exact q E H a w hst.size hst.defers (fun i=>by rw[y];exact hst.env i) hst.sat hst.ext hst.frm hk
 ·have:=A9x (P:=P) (cs:=cs) (bs:=bs) (ops:=ops) ops.toList 0 (Array.replicate ops.size false) (by simp) (by intro j;simp[Array.getElem?_replicate];split<;>rfl) (by simp) e g E.get H _ (A4J d)
   (A4I ops.toList 0 E E.get H _ (fun _=>rfl) (A4J d) h)
  simpa using this
end
section
variable {P:Program} {H H':Heap} {ev ev':Operand→D} {bl:List Nat}
theorem A01{op:Op}{K:D→Heap→Prop}(hc:J1 P op= .pure):D1 P ev H K op= ∃d,L0 P ev op=some d∧K d H:=by
 cases op
 case convert s t x=>simp only[D1,hc]
 case call cc=>
  obtain⟨callee,args,e⟩:=cc;cases callee with
  |value f=>simp[J1]at hc
  |invoke r m=>simp[J1]at hc
  |builtin b=>cases b<;>first|(simp only[D1,hc];done)|(simp[J1]at hc;done)
 all_goals first
  |rfl
  |(simp[J1]at hc;done)
  |(simp only[D1,hc];done)
theorem B1i{op:Op}{K:D→Heap→Prop}(h: ∀x∈op.operands.toList,ev x=ev' x):D1 P ev H K op=D1 P ev' H K op:=by
 by_cases hc:J1 P op= .pure
 ·rw[A01 hc,A01 hc,A1x hc h]
 ·cases op
  case load t x=>simp only[D1,h x (by simp[Op.operands])]
  case store t a x=>simp only[D1,h a (by simp[Op.operands]),h x (by simp[Op.operands])]
  case box t x=>simp only[D1,h x (by simp[Op.operands])]
  case lookup t m k ok=>simp only[D1,h m (by simp[Op.operands]),h k (by simp[Op.operands])]
  case mapUpdate t m k x=>simp only[D1,h m (by simp[Op.operands]),h k (by simp[Op.operands]),h x (by simp[Op.operands])]
  case buildSlice t n parts=>simp only[D1,A52 (ev:=ev) (ev':=ev') (l:=parts.toList) (fun x hx=>h x (by simpa [Op.operands]using hx))]
  case makeSlice t l c=>simp only[D1,h l (by simp[Op.operands]),h c (by simp[Op.operands])]
  case range t x=>simp only[D1,h x (by simp[Op.operands])]
  case next x b=>simp only[D1,h x (by simp[Op.operands])]
  case entry x=>simp only[D1,h x (by simp[Op.operands])]
  case convert s t x=>
   have hx:=h x (by simp[Op.operands]);have e1:A2p P ev H K s t x=A2p P ev' H K s t x:=by unfold A2p;rw[hx]
   simp only[D1];exact e1
  case call cc=>
   obtain⟨callee,args,g⟩:=cc;cases callee with
   |value f=>
    have i:=h f (by simp[Op.operands,Call.operands]);have j:=A2x (ev:=ev) (ev':=ev') (l:=args.toList) (fun x hx=>h x (by simp[Op.operands,Call.operands];exact .inr (by simpa using hx)));simp only[D1,i,j]
   |invoke r m=>simp only[D1]
   |builtin b=>
    cases b
    case append=>
     unfold D1;simp only;split
     ·rename_i t o s x h1 e;have e1:=h s (by simp[Op.operands,Call.operands,←D1F,e]);have e2:=h x (by simp[Op.operands,Call.operands,←D1F,e]);unfold A1N;rw[e1,e2]
     ·rfl
    case len=>
     unfold D1;simp only;split
     ·rename_i x e;rw[h x (by simp[Op.operands,Call.operands,←D1F,e])]
     ·rfl
    all_goals
     unfold D1;simp only
     try(split<;>first|rfl|(rename_i d;exact absurd d hc))
  case makeMap t r=>cases r<;>first|rfl|(unfold D1;simp only;try(split<;>first|rfl|(rename_i d;exact absurd d hc)))
  all_goals first
   |rfl
   |(unfold D1;simp only;try(split<;>first|rfl|(rename_i d;exact absurd d hc)))
theorem A4K{op:Op}{K M:D→Heap→Prop}(j: ∀d H,K d H→M d H)(h:D1 P ev H K op):D1 P ev H M op:=by
 by_cases hc:J1 P op= .pure
 ·rw[A01 hc]at h⊢;obtain⟨d,h1,o⟩:=h;exact⟨d,h1,j _ _ o⟩
 ·cases op
  case load t x=>obtain⟨d,h1,o⟩:=h;exact⟨d,h1,j _ _ o⟩
  case store t a x=>obtain⟨d,h1,o⟩:=h;exact⟨d,h1,j _ _ o⟩
  case box t x=>exact⟨h.1,fun b hb=>j _ _ (h.2 b hb)⟩
  case alloc t=>obtain⟨z,h1,o⟩:=h;exact⟨z,h1,fun b hb=>j _ _ (o b hb)⟩
  case lookup t m k ok=>obtain⟨d,h1,o⟩:=h;exact⟨d,h1,j _ _ o⟩
  case mapUpdate t m k x=>obtain⟨d,h1,o⟩:=h;exact⟨d,h1,j _ _ o⟩
  case buildSlice t n parts=>obtain⟨e,sz,u,z,es,h1,o,y,A,h5,q,O⟩:=h;exact⟨e,sz,u,z,es,h1,o,y,A,h5,q,fun b hb=>j _ _ (O b hb)⟩
  case makeSlice t l c=>obtain⟨e,sz,u,z,k,n,k',m,h1,o,y,A,h5,q,O,h8,h9,T,U⟩:=h;exact⟨e,sz,u,z,k,n,k',m,h1,o,y,A,h5,q,O,h8,h9,T,fun b hb=>j _ _ (U b hb)⟩
  case range t x=>
   unfold D1 at h⊢;simp only at h⊢;split at h
   ·exact⟨h.1,fun b hb=>j _ _ (h.2 b hb)⟩
   ·exact⟨h.1,fun b hb=>j _ _ (h.2 b hb)⟩
   ·exact h.elim
  case next x b=>
   unfold D1 at h⊢;simp only at h⊢;split at h
   ·split at h
    ·rename_i h1 o _ _ _ _;exact⟨fun g=>j _ _ (h.1 g),fun g=>j _ _ (h.2 g)⟩
    ·exact h.elim
   ·split at h
    ·exact⟨fun i p J C=>j _ _ (h.1 i p J C),fun g=>j _ _ (h.2 g)⟩
    ·exact h.elim
   ·exact h.elim
  case entry x=>
   unfold D1 at h⊢;simp only at h⊢;split at h
   ·split at h
    ·obtain⟨i,p,J,C,L⟩:=h;exact⟨i,p,J,C,j _ _ L⟩
    ·exact h.elim
   ·exact h.elim
  case convert s t x=>
   have e1:A2p P ev H K s t x→A2p P ev H M s t x:=fun h=>by
    unfold A2p at h⊢;split at h
    ·exact⟨h.1,h.2.1,fun b hb=>j _ _ (h.2.2 b hb)⟩
    ·rcases h with⟨h1,o,z,y,A⟩|⟨h1,o,b,z,y,A,h5,q⟩
     ·exact .inl ⟨h1,o,z,y,j _ _ A⟩
     ·exact .inr ⟨h1,o,b,z,y,A,h5,j _ _ q⟩
   simp only[D1]at h⊢;exact e1 h
  case call cc=>
   obtain⟨callee,args,a0⟩:=cc;cases callee with
   |value f=>
    unfold D1 at h⊢;simp only at h⊢;split at h
    ·exact ACalls.mono h j
    ·exact h.elim
   |invoke r m=>unfold D1 at h;simp only at h;try(split at h<;>first|exact h.elim|(rename_i G;exact absurd G hc))
   |builtin b=>
    cases b
    case append=>
     unfold D1 at h⊢;simp only at h⊢;split at h
     ·unfold A1N at h⊢;obtain⟨e,sz,u,h1,o,y,A,xs,h5,q⟩:=h;refine⟨e,sz,u,h1,o,y,A,xs,h5,?_⟩;split at q
      ·exact⟨q.1,q.2.1,fun g=>j _ _ (q.2.2.1 g),fun g b hb=>j _ _ (q.2.2.2 g b hb)⟩
      ·refine⟨q.1,?_⟩;rcases q.2 with⟨J,es,C,L,V,W,X⟩|⟨es,C,L,V,W,X⟩
       ·exact .inl ⟨J,es,C,L,V,W,fun Y I=>j _ _ (X Y I)⟩
       ·exact .inr ⟨es,C,L,V,W,fun Y pre I=>j _ _ (X Y pre I)⟩
      ·exact q.elim
     ·exact h.elim
    case len=>
     have e1:(match args.toList with| [x]=>∃kvs,Y6 H (ev x)=some kvs∧K (.int .i64 kvs.length) H|_=>False)→(match args.toList with| [x]=>∃kvs,Y6 H (ev x)=some kvs∧M (.int .i64 kvs.length) H|_=>False):=fun h=>by
      split at h
      ·obtain⟨kvs,h1,o⟩:=h;exact⟨kvs,h1,j _ _ o⟩
      ·exact h.elim
     unfold D1 at h⊢;simp only at h⊢;exact e1 h
    all_goals
     unfold D1 at h;simp only at h
     try(split at h<;>first|exact h.elim|(rename_i G;exact absurd G hc))
  case makeMap t r=>
   cases r with
   |none=>exact fun b hb=>j _ _ (h b hb)
   |some x=>unfold D1 at h;simp only at h;try(split at h<;>first|exact h.elim|(rename_i G;exact absurd G hc))
  all_goals (unfold D1 at h;simp only at h;try(split at h<;>first|exact h.elim|(rename_i G;exact absurd G hc)))
def B5b(bl:List Nat)(ev:Operand→D):Op→Prop
 | .load _ x=>∀b∈rdB (ev x),b∈bl
 |_=>False
abbrev Kg:=FEnv→Heap→Prop
def A8K(P:Program)(bl:List Nat)(o:Oper)(K:Kg)(F:FEnv)(H:Heap):Prop:=
 o.guard=none∧(J1 P o.op= .load→B5b bl F.ev o.op)∧D1 P F.ev H (fun d H'=>(∀k∈bl,H' k=H k)∧K (F.put o.dst d) H') o.op
theorem B4B{o:Oper}{K e:Kg}(h: ∀F H,K F H→e F H){F:FEnv}{H:Heap}(hk:A8K P bl o K F H):A8K P bl o e F H:=
 ⟨hk.1,hk.2.1,A4K (fun d H' g=>⟨g.1,h _ _ g.2⟩) hk.2.2⟩
def Yld(P:Program)(bl:List Nat)(o:Oper)(d:D)(F:FEnv)(H:Heap):Prop:=
 (J1 P o.op= .pure∧L0 P F.ev o.op=some d)∨∃t x,o.op= .load t x∧(∀b∈rdB (F.ev x),b∈bl)∧y9 P t (F.ev x) H=some d
theorem C2P{o:Oper}{K:Kg}{F:FEnv}{H:Heap}(hc:J1 P o.op≠ .eff)(h:A8K P bl o K F H):o.guard=none∧∃d,Yld P bl o d F H∧K (F.put o.dst d) H:=by
 obtain⟨h1,j,g⟩:=h;refine⟨h1,?_⟩;cases e:J1 P o.op with
 |pure=>
  rw[A01 e]at g;obtain⟨d,i,_,h5⟩:=g;exact⟨d,.inl ⟨e,i⟩,h5⟩
 |load=>
  have hr:=j e;obtain⟨dst,op,ty,pos,after,guard⟩:=o;cases op<;>try exact hr.elim
  rename_i t x;obtain⟨d,i,_,h5⟩:=g;exact⟨d,.inr ⟨t,x,rfl,hr,i⟩,h5⟩
 |eff=>exact absurd e hc
theorem A53{o:Oper}{K:Kg}{F:FEnv}{H:Heap}{d:D}(e:o.guard=none)(i:Yld P bl o d F H)(h:K (F.put o.dst d) H):A8K P bl o K F H:=by
 rcases i with⟨hc,hp⟩|⟨t,x,ho,hr,hl⟩
 ·refine⟨e,(fun g=>by rw[hc]at g;cases g),?_⟩;rw[A01 hc];exact⟨d,hp,fun _ _=>rfl,h⟩
 ·refine⟨e,fun _=>by rw[ho];exact hr,?_⟩;rw[ho];exact⟨d,hl,fun _ _=>rfl,h⟩
theorem Yld.keep{ops:Array Oper}{o:Oper}{d:D}{F:FEnv}{H H':Heap}{dst:Option Tmp}{e:D}(h:Yld P bl o d F H)(i: ∀t,dst=some t→t∉o.looksAt ops)(j: ∀k∈bl,H' k=H k):Yld P bl o d (F.put dst e) H':=by
 have g:=Q5 (F:=F) (ops:=ops) (o:=o) (dst:=dst) (d:=e) i;rcases h with⟨hc,hp⟩|⟨t,x,ho,hr,hl⟩
 ·exact .inl ⟨hc,by rw[A1x hc g];exact hp⟩
 ·have hx:=g x (by rw[ho];simp[Op.operands]);refine .inr ⟨t,x,ho,by rw[hx];exact hr,?_⟩;rw[hx];unfold y9 at hl⊢;obtain⟨s,hs,hl⟩:=D0m.1 hl;obtain⟨cs,hc,hl⟩:=D0m.1 hl;rw[hs,D04,A7L hc (fun b hb=>j b (hr b hb)),D04];exact hl
section
variable {ops:Array Oper} {md:Region.Mode}
def sG(P:Program)(bl:List Nat)(ops:Array Oper)(i:Nat)(K:Kg):Kg:=match ops[i]? with
 |none=>K
 |some o=>A8K P bl o K
def A9z(P:Program)(bl:List Nat)(md:Region.Mode)(ops:Array Oper)(K:Kg):Nat→Array Bool→Kg
 |0,listed=>fun F H=>Region.ready md ops listed= []∧K F H
 |fuel+1,listed=>fun F H=>(Region.ready md ops listed= []→K F H)∧∀i∈Region.ready md ops listed,sG P bl ops i (A9z P bl md ops K fuel (listed.setIfInBounds i true)) F H
theorem B1j{K:Kg}{i:Nat}{q:Oper}{d:D}{W:Nat→Prop}(X:ops[i]? =some q)(y:q.guard=none)(hW:Closed md ops i W):
  ∀(fuel:Nat) (g:Array Bool) (F:FEnv) (H:Heap),(∀j,W j→g.getD j false=false)→
   (∀j oj,ops[j]? =some oj→¬W j→g.getD j true=false→q.apart ops oj=true)→
   i∈Region.ready md ops g→Yld P bl q d F H→A9z P bl md ops K fuel (g.setIfInBounds i true) (F.put q.dst d) H→A9z P bl md ops K (fuel+1) g F H:=by
 intro fuel
 induction fuel with
 |zero=>
  intro g F H _ _ hr M h;refine⟨fun O=>(by rw[O]at hr;cases hr),fun j z=>?_⟩;by_cases m:j=i
  ·subst m;unfold sG;simp only[X];exact A53 y M h
  ·have:=ready_mono z m;rw[h.1]at this;cases this
 |succ fuel ih=>
  intro g F H A p hr M h;refine⟨fun O=>(by rw[O]at hr;cases hr),fun j z=>?_⟩;by_cases m:j=i
  ·subst m;unfold sG;simp only[X];exact A53 y M h
  ·obtain⟨u,oj,C,_⟩:=mem_ready.1 z;have G:=hW.not_ready A z m;have T:=p j oj C G u;obtain⟨a1,a2,a3⟩:=Oper.apart_spec T;have I: ∀k,W k→(g.setIfInBounds j true).getD k false=false:=fun k hk=>by
    rw[W8 (fun e:j=k=>G (by rw[e];exact hk))];exact A k hk
   have r: ∀k ok,ops[k]? =some ok→¬W k→(g.setIfInBounds j true).getD k true=false→q.apart ops ok=true:=fun k ok hk U Y=>by
    refine p k ok hk U ?_;by_cases J:j=k
    ·subst J;exact u
    ·rw[getD_set_ne true J]at Y;exact Y
   have h1:=h.2 j (ready_mono z m);unfold sG at h1⊢;simp only[C]at h1⊢;obtain⟨g1,g2,g3⟩:=h1;have L:=Q5 (F:=F) (ops:=ops) (o:=oj) (dst:=q.dst) (d:=d) a1;refine⟨g1,fun hl=>?_,?_⟩
   ·have V:=g2 hl;have key: ∀op:Op,(∀x∈op.operands.toList,(F.put q.dst d).ev x=F.ev x)→B5b bl (F.put q.dst d).ev op→B5b bl F.ev op:=fun op hv hr=>by
     cases op with
     |load t x=>
      have hx:=hv x (by simp[Op.operands]);show∀b∈rdB (F.ev x),b∈bl;rw[←hx];exact hr
     |_=>exact hr.elim
    exact key _ L V
   ·rw[B1i L]at g3;refine A4K (fun e H' hk=>⟨hk.1,ih (g.setIfInBounds j true) (F.put oj.dst e) H' I r (ready_mono hr (Ne.symm m)) (M.keep a3 hk.1) ?_⟩) g3;rw[Array.setIfInBounds_comm _ _ m,←A10 a2];exact hk.2
theorem B4C{K:Kg}{i:Nat}{q:Oper}{W:Nat→Prop}(u:ops[i]? =some q)(x:Closed md ops i W)(fuel:Nat)(d:Array Bool)(F:FEnv)(H:Heap)(o: ∀j,W j→d.getD j false=false)
  (e: ∀j oj,ops[j]? =some oj→d.getD j true=false→W j) (hr:i∈Region.ready md ops d) (h:A8K P bl q (A9z P bl md ops K fuel (d.setIfInBounds i true)) F H):A9z P bl md ops K (fuel+1) d F H:=by
 refine⟨fun y=>(by rw[y]at hr;cases hr),fun j r=>?_⟩;by_cases g:j=i
 ·subst g;unfold sG;simp only[u];exact h
 ·obtain⟨m,oj,p,_⟩:=mem_ready.1 r;exact absurd (e j oj p m) (x.not_ready o r g)
def C1C(ops:Array Oper)(i:Nat)(acc:List Nat)(j:Nat):Bool:=match ops[j]? with
 |some o=>o.after.any fun e=>Region.binds .any e&&(e.on==i||acc.contains e.on)
 |none=>false
def A4s(ops:Array Oper)(i:Nat):List Nat→List Nat→List Nat
 | [],acc=>acc
 |j::l,acc=>A4s ops i l (if C1C ops i acc j=true then j::acc else acc)
def K4(P:Program)(ops:Array Oper):List Nat→List Nat→Bool
 | [],done=>(List.range ops.size).all fun i=>done.contains i
 |i::l,done=>(match ops[i]? with
  |some o=>(o.after.all fun e=> !Region.binds .any e||done.contains e.on)&&o.guard.isNone&& !done.contains i&& !l.contains i&&
    l.all fun j=>(A4s ops i l []).contains j||(J1 P o.op != .eff&&match ops[j]? with|some oj=>o.apart ops oj|none=>false)
  |none=>false)&&K4 P ops l (i::done)
def B5c(P:Program)(ops:Array Oper)(perm:List Nat):Bool:=decide (perm.length=ops.size)&&K4 P ops perm []
theorem A1U{i:Nat}: ∀(l m:List Nat),(∀j∈m,∃oj,ops[j]? =some oj∧∃e∈oj.after,Region.binds .any e=true∧(e.on=i∨e.on∈m))→
  (∀j∈A4s ops i l m,∃oj,ops[j]? =some oj∧∃e∈oj.after,Region.binds .any e=true∧(e.on=i∨e.on∈A4s ops i l m))∧(∀j∈m,j∈A4s ops i l m)∧∀j∈A4s ops i l m,j∈m∨j∈l
 | [],m,h=>⟨h,fun j p=>p,fun j p=>.inl p⟩
 |k::l,m,h=>by
  unfold A4s;split
  ·rename_i hc;have q: ∃oj,ops[k]? =some oj∧∃e∈oj.after,Region.binds .any e=true∧(e.on=i∨e.on∈m):=by
    unfold C1C at hc;split at hc
    ·rename_i o ho;obtain⟨e,he,hb⟩:=Array.any_eq_true'.1 hc;simp only[D0n,D1x,beq_iff_eq,List.contains_iff_mem]at hb;exact⟨o,ho,e,he,hb.1,hb.2⟩
    ·cases hc
   obtain⟨h1,r,u⟩:=A1U l (k::m) (fun j p=>by
    rcases D02.1 p with rfl|p
    ·obtain⟨oj,a,e,b,c,d⟩:=q;exact⟨oj,a,e,b,c,d.imp id (D0s _)⟩
    ·obtain⟨oj,a,e,b,c,d⟩:=h j p;exact⟨oj,a,e,b,c,d.imp id (D0s _)⟩)
   exact⟨h1,fun j p=>r j (D0s _ p),fun j p=>by
    rcases u j p with g|g
    ·rcases D02.1 g with rfl|g
     ·exact .inr (D0l ..)
     ·exact .inl g
    ·exact .inr (D0s _ g)⟩
  ·obtain⟨h1,r,u⟩:=A1U l m h;exact⟨h1,r,fun j p=>(u j p).imp id (D0s _)⟩
def A90(P:Program)(bl:List Nat)(ops:Array Oper)(K:Kg):List Nat→Kg
 | []=>K
 |i::l=>sG P bl ops i (A90 P bl ops K l)
theorem B4D{K:Kg}: ∀(l done:List Nat) (m:Array Bool),(∀j,m.getD j false=true↔j∈done)→m.size=ops.size→K4 P ops l done=true→
  ∀F H,A90 P bl ops K l F H→A9z P bl .any ops K l.length m F H:=by
 intro l
 induction l with
 |nil=>
  intro done m J hsz p F H h;refine⟨?_,h⟩;cases hr:Region.ready .any ops m with
  |nil=>rfl
  |cons x xs=>
   exfalso;have hx:x∈Region.ready .any ops m:=by rw[hr];simp
   obtain⟨h0,o,ho,_⟩:=mem_ready.1 hx;have L:=(D0z.1 ho).1;simp only[K4,D1B,List.mem_range,List.contains_iff_mem]at p;have:=(J x).2 (p x L);rw[K3 h0]at this;cases this
 |cons i l ih=>
  intro done m J hsz p F H h;simp only[K4,D0n]at p;obtain⟨p,u⟩:=p;cases M:ops[i]? with
  |none=>rw[M]at p;cases p
  |some oi=>
  rw[M]at p;simp only[D0n,Bool.not_eq_true',Option.isNone_iff_eq_none,D1B,D1x,List.contains_iff_mem,bne_iff_ne,ne_eq]at p;obtain⟨⟨⟨⟨he,hg⟩,X⟩,Y⟩,A⟩:=p;have b4:=(D0z.1 M).1;have I:i∉done:=fun g=>by rw[List.contains_iff_mem.2 g]at X;cases X
  have b6:i∉l:=fun g=>by rw[List.contains_iff_mem.2 g]at Y;cases Y
  have y:i∈Region.ready .any ops m:=by
   rw[mem_ready];refine⟨?_,oi,M,fun e a9 hb=>?_⟩
   ·have hf:m.getD i false=false:=by
     cases hh:m.getD i false with
     |false=>rfl
     |true=>exact absurd ((J i).1 hh) I
    have O:i<m.size:=by omega
    simp[O]at hf⊢;exact hf
   ·rw[J];rw[Array.all_eq_true_iff_forall_mem]at he;have:=he e a9;simpa [hb]using this
  have b0: ∀j,(m.setIfInBounds i true).getD j false=true↔j∈i::done:=fun j=>by
   by_cases T:i=j
   ·subst T;have O:i<m.size:=by omega
    simp[O]
   ·rw[getD_set_ne false T,J];simp[Ne.symm T]
  have a0:(m.setIfInBounds i true).size=ops.size:=by simpa using hsz
  obtain⟨w1,_,w3⟩:=A1U (ops:=ops) (i:=i) l [] (fun j q=>by cases q)
  let W:Nat→Prop:=fun j=>j=i∨j∈A4s ops i l []
  have a4:Closed .any ops i W:=by
   refine⟨.inl rfl,fun j oj q b1 r=>?_⟩;rcases q with q|q
   ·exact absurd q b1
   ·obtain⟨b7,a,e,b,c,d⟩:=w1 j q;rw[r]at a;cases a;exact⟨e,b,c,d⟩
  --what comes later is not listed
  have C: ∀(l done:List Nat),K4 P ops l done=true→∀j∈l,j∉done:=by
   intro l
   induction l with
   |nil=>intro _ _ j q;cases q
   |cons k l U=>
    intro done p j q;simp only[K4,D0n]at p;obtain⟨p,b2⟩:=p;rcases D02.1 q with rfl|q
    ·split at p
     ·simp only[D0n,Bool.not_eq_true']at p;intro g;rw[List.contains_iff_mem.2 g]at p;simp at p
     ·cases p
    ·exact fun g=>U (k::done) b2 j q (D0s _ g)
  have a5: ∀j,W j→m.getD j false=false:=fun j q=>by
   cases hh:m.getD j false with
   |false=>rfl
   |true=>
    have hd:=(J j).1 hh;rcases q with rfl|q
    ·exact absurd hd I
    ·rcases w3 j q with g|g
     ·cases g
     ·exact absurd (D0s _ hd) (C l (i::done) u j g)
  --all that is not listed stands in the list
  have G: ∀(l done:List Nat),K4 P ops l done=true→∀j,j<ops.size→j∈done∨j∈l:=by
   intro l
   induction l with
   |nil=>
    intro done p j q;simp only[K4,D1B,List.mem_range,List.contains_iff_mem]at p;exact .inl (p j q)
   |cons k l U=>
    intro done p j q;simp only[K4,D0n]at p;rcases U (k::done) p.2 j q with g|g
    ·rcases D02.1 g with rfl|g
     ·exact .inr (D0l ..)
     ·exact .inl g
    ·exact .inr (D0s _ g)
  have z: ∀j oj,ops[j]? =some oj→m.getD j true=false→j=i∨j∈l:=fun j oj r hu=>by
   have L:=(D0z.1 r).1;have hf:=K3 hu;rcases G l (i::done) u j L with g|g
   ·rcases D02.1 g with rfl|g
    ·exact .inl rfl
    ·rw[(J j).2 g]at hf;cases hf
   ·exact .inr g
  have hst:A8K P bl oi (A9z P bl .any ops K l.length (m.setIfInBounds i true)) F H:=by
   have h':A8K P bl oi (A90 P bl ops K l) F H:=by
    have:sG P bl ops i (A90 P bl ops K l) F H:=h;unfold sG at this;simp only[M]at this;exact this
   exact B4B (fun F' H' g=>ih (i::done) _ b0 a0 u F' H' g) h'
  by_cases hc:J1 P oi.op= .eff
  ·refine B4C M a4 l.length m F H a5 (fun j oj r hu=>?_) y hst;rcases z j oj r hu with rfl|V
   ·exact .inl rfl
   ·rcases A j V with g|g
    ·exact .inr g
    ·exact absurd hc g.1
  ·obtain⟨b3,d,hy,hK⟩:=C2P hc hst;refine B1j M b3 a4 l.length m F H a5 (fun j oj r a6 hu=>?_) y hy hK;rcases z j oj r hu with rfl|V
   ·exact absurd (.inl rfl) a6
   ·rcases A j V with g|g
    ·exact absurd (.inr g) a6
    ·have:=g.2;rw[r]at this;exact this
structure StO(N:Nat)(w0:World)(H0:Heap)(F:FEnv)(H:Heap)(a:Act)(w:World):Prop where
 size:a.tmps.size=N
 defers:a.defers= []
 env: ∀i,R w H (F i) (a.eval (.tmp i))
 sat:Sat H w
 ext:Ext H0 w0 w
 frm:From w0 H0 H
theorem StO.evR{N:Nat}{w0:World}{H0:Heap}{F:FEnv}{a:Act}{w:World}(h:StO N w0 H0 F H a w)(x:Operand):R w H (F.ev x) (a.eval x):=by
 cases x with
 |tmp t=>exact h.env t
 |const v=>exact A2S w H v
 |global g=>exact .glob g
 |func f=>exact .fn _ _ _ _ _ rfl rfl (by simp) (by simp)
theorem B1k{N:Nat}{w0:World}{H0:Heap}{o:Oper}{K:Kg}{F:FEnv}{a:Act}{w:World}(q: ∀t,o.dst=some t→t<N)(h:A8K P bl o K F H)(hst:StO N w0 H0 F H a w):
  opSem P none o a w fun v w'=>∃p H',StO N w0 H0 p H' (a.put o.dst v) w'∧K p H':=by
 refine(N5 (o:=o) hst.sat hst.evR h.2.2).mono fun v w' hp=>?_;obtain⟨d,H',r,u,j,m,_,hk⟩:=hp;refine⟨F.put o.dst d,H',⟨?_,?_,fun i=>?_,u,hst.ext.trans hst.frm j,hst.frm.trans hst.ext.size m⟩,hk⟩
 ·cases e:o.dst<;>simp[Act.put,hst.size]
 ·cases e:o.dst<;>simp[Act.put,hst.defers]
 ·cases e:o.dst with
  |none=>exact(hst.env i).mono j m
  |some t=>
   have x:=q t e;simp only[FEnv.put];by_cases g:t=i
   ·subst g;rw[if_pos rfl];have:(a.put (some t) v).eval (.tmp t)=v:=by
     have y:t<a.tmps.size:=by rw[hst.size];exact x
     simp[Act.eval,Act.put,y]
    rw[this];exact r
   ·rw[if_neg g];have:(a.put (some t) v).eval (.tmp i)=a.eval (.tmp i):=by
     simp[Act.eval,Act.put,D1E g]
    rw[this];exact(hst.env i).mono j m
theorem A20{N:Nat}{w0:World}{H0:Heap}{K:Kg}{Q:Exit→Act→World→Prop}(m: ∀o∈ops.toList,∀t,o.dst=some t→t<N)
  (j: ∀F H a w,StO N w0 H0 F H a w→K F H→Q .normal a w): ∀(fuel:Nat) (d:Array Bool) (F:FEnv) (H:Heap) (a:Act) (w:World),
  A9z P bl md ops K fuel d F H→StO N w0 H0 F H a w→Go.wpAny P md ops Q fuel d a w
 |0,_,F,H,a,w,h,hst=>⟨h.1,j _ _ _ _ hst h.2⟩
 |fuel+1,d,F,H,a,w,h,hst=>⟨fun p=>j _ _ _ _ hst (h.1 p),fun i q=>by
   have h1:=h.2 i q;unfold sG at h1;unfold Go.wpOp;split
   ·rename_i hn;simp only[hn]at h1;exact A20 m j fuel _ _ _ _ _ h1 hst
   ·rename_i o ho;simp only[ho]at h1;have e:o∈ops.toList:=by rw[D1F];exact Array.mem_of_getElem? ho
    rw[if_pos (by simp[Region.wanted,h1.1])];exact .inl (opSem.wp ((B1k (m o e) h1 hst).mono fun v w' hv=>by
     obtain⟨r,H',g,hk⟩:=hv;exact A20 m j fuel _ _ _ _ _ hk g))⟩
def A11:List Oper→Nat→Option Oper
 | [],_=>none
 |o::_,0=>some o
 |_::l,i+1=>A11 l i
theorem A91: ∀(l:List Oper) (i:Nat),A11 l i=l[i]?
 | [],_=>rfl
 |_::_,0=>rfl
 |_::l,i+1=>by rw[A11,A91 l i];rfl
def wpG(P:Program)(bl:List Nat)(K:Env→Heap→Prop):List (Option Oper)→Env→Heap→Prop
 | [],E,H=>K E H
 |none::l,E,H=>False
 |some o::l,E,H=>(J1 P o.op= .load→B5b bl E.ev o.op)∧D1 P E.ev H (fun d H'=>(∀k∈bl,H' k=H k)∧wpG P bl K l (E.put o.dst d) H') o.op
theorem A92{K:Env→Heap→Prop}(m: ∀(i:Nat) (o:Oper),ops[i]? =some o→o.guard=none): ∀(l:List Nat) (E:Env) (F:FEnv) (H:Heap),(∀t,E.get t=F t)→wpG P bl K (l.map (A11 ops.toList)) E H→
  A90 P bl ops (fun F H=>∃E,(∀t,E.get t=F t)∧K E H) l F H
 | [],E,F,H,e,h=>⟨E,e,h⟩
 |i::l,E,F,H,e,h=>by
  have g:F.ev=E.ev:=by
   funext x
   cases x with
   |tmp t=>exact(e t).symm
   |_=>rfl
  show sG P bl ops i _ F H;unfold sG;rw[D1r,A91,Array.getElem?_toList]at h;cases j:ops[i]? with
  |none=>rw[j]at h;exact h.elim
  |some o=>
   rw[j]at h;obtain⟨h1,p⟩:=h;simp only;refine⟨m i o j,by rw[g];exact h1,?_⟩;rw[g];refine A4K (fun d H' hk=>⟨hk.1,A92 m l (E.put o.dst d) _ H' (fun t=>?_) hk.2⟩) p;cases o.dst with
   |none=>exact e t
   |some u=>
    simp only[Env.put,Env.get,FEnv.put];split
    ·rfl
    ·exact e t
theorem A4t: ∀(l done:List Nat),K4 P ops l done=true→∀(i:Nat) (o:Oper),i∈l→ops[i]? =some o→o.guard=none
 | [],_,_,i,_,d,_=>by cases d
 |k::l,done,h,i,o,d,ho=>by
  simp only[K4,D0n]at h;rcases D02.1 d with rfl|d
  ·rw[ho]at h;simp only[D0n,Option.isNone_iff_eq_none]at h;exact h.1.1.1.1.2
  ·exact A4t l (k::done) h.2 i o d ho
theorem okOrd_cover: ∀(l done:List Nat),K4 P ops l done=true→∀j,j<ops.size→j∈done∨j∈l
 | [],done,h,j,d=>by
  simp only[K4,D1B,List.mem_range,List.contains_iff_mem]at h;exact .inl (h j d)
 |k::l,done,h,j,d=>by
  simp only[K4,D0n]at h;rcases okOrd_cover l (k::done) h.2 j d with g|g
  ·rcases D02.1 g with rfl|g
   ·exact .inr (D0l ..)
   ·exact .inl g
  ·exact .inr (D0s _ g)
theorem B5d{N:Nat}{w0:World}{H0:Heap}{id:Nat}{perm:List Nat}{K:Env→Heap→Prop}{Q:Exit→Act→World→Prop}{a:Act}{w:World}{E:Env}(hm:P.follows .mixedOrders=true)(d:B5c P ops perm=true)
  (p: ∀o∈ops.toList,∀t,o.dst=some t→t<N)
  (q: ∀E H a w,a.tmps.size=N→a.defers= []→(∀i,R w H (E.get i) (a.eval (.tmp i)))→Sat H w→Ext H0 w0 w→From w0 H0 H→K E H→Q .normal a w)
  (h1:a.tmps.size=N) (r:a.defers= []) (u: ∀i,R w H (E.get i) (a.eval (.tmp i))) (x:Sat H w) (h5:Ext H0 w0 w) (m:From w0 H0 H)
  (h:wpG P bl K (perm.map (A11 ops.toList)) E H):(Code.region id ops true).wp P Q a w:=by
 simp only[B5c,D0n,D0w]at d;obtain⟨hlen,d⟩:=d;have y: ∀(i:Nat) (o:Oper),ops[i]? =some o→o.guard=none:=fun i o ho=>by
  rcases okOrd_cover perm [] d i (D0z.1 ho).1 with g|g
  ·cases g
  ·exact A4t perm [] d i o g ho
 have he:Ext H w {w with drawn:=w.drawn+1}:=Ext.drewN H w 1;have e:=x.same (w':={w with drawn:=w.drawn+1}) rfl he;refine wp_region_any hm ?_;rw[←hlen];refine A20 (P:=P) (bl:=bl) (md:=.any) (ops:=ops) (N:=N) (w0:=w0) (H0:=H0) (K:=fun F H=>∃E,(∀t,E.get t=F t)∧K E H) p (fun F H a w hst hk=>?_) perm.length _ E.get H a _ ?_ ?_
 ·obtain⟨E,z,hk⟩:=hk;exact q E H a w hst.size hst.defers (fun i=>by rw[z];exact hst.env i) hst.sat hst.ext hst.frm hk
 ·exact B4D perm [] _ (fun j=>by simp[Array.getElem?_replicate];split<;>simp) (by simp[hlen]) d E.get H (A92 y perm E E.get H (fun _=>rfl) h)
 ·exact⟨h1,r,fun i=>(u i).mono he (D17 _ _),e,h5.trans m he,m⟩
end
end
inductive AX where
 |normal
 |exit (id:Nat)
 |ret
def wpOps(P:Program)(gs:List (Option Nat))(K:Env→Heap→Prop):List Oper→Env→Heap→Prop
 | [],E,H=>K E H
 |o::l,E,H=>match o.guard with
  |none=>D1 P E.ev H (fun d H'=>wpOps P gs K l (E.put o.dst d) H') o.op
  |some (j,want)=>A1y E (I2 gs j) want (fun E=>D1 P E.ev H (fun d H'=>wpOps P gs K l (E.put o.dst d) H') o.op) (fun E=>wpOps P gs K l (E.put o.dst (.tuple [])) H)
structure St(N:Nat)(w0:World)(H0:Heap)(E:Env)(H:Heap)(a:Act)(w:World):Prop where
 size:a.tmps.size=N
 defers:a.defers= []
 env: ∀i,R w H (E.get i) (a.eval (.tmp i))
 sat:Sat H w
 ext:Ext H0 w0 w
 frm:From w0 H0 H
def A02(E0:Env)(H0:Heap)(E:Env)(H:Heap):Prop:=∀(N:Nat) (w0:World) (Hz:Heap) (a:Act) (w:World),St N w0 Hz E H a w→St N w0 Hz E0 H0 a w
def B2p(body:(Env→Heap→Prop)→Env→Heap→Prop)(E:Env)(H:Heap):Prop:=
 ∃(I:Nat→Env→Heap→Prop),(∃n E0 H0,A02 E0 H0 E H∧I n E0 H0)∧∀n E H,I n E H→body (fun E' H'=>∃m E0 H0,m<n∧A02 E0 H0 E' H'∧I m E0 H0) E H
def Env.fix(E:Env)(c:Operand)(b:Bool):Env:=match c with
 | .tmp t=>(t,.bool b)::E
 |_=>E
inductive Rc where
 |rd (sx:Bool)
 |par
 |ord (perm:List Nat)
 |rg
 |wk
def A0k(id:Nat):List (Nat×Rc)→Option Rc
 | []=>none
 |(i,sx)::Z=>if id=i then some sx else A0k id Z
def A8L(P:Program)(sx:Bool)(bl:List Nat)(K:Env→Heap→Prop):List Oper→Env→Heap→Prop
 | [],E,H=>K E H
 |o::l,E,H=>o.guard=none∧B5N P sx bl E.ev H (fun d H'=>A8L P sx bl K l (E.put o.dst d) H') o.op
def Z4(P:Program)(bl:List Nat)(gs:List (Option Nat))(K:Env→Heap→Prop):List Oper→Env→Heap→Prop
 | [],E,H=>K E H
 |o::l,E,H=>match o.guard with
  |none=>A5p P bl E.ev H (fun d H'=>Z4 P bl gs K l (E.put o.dst d) H') o.op
  |some (j,want)=>A1y E (I2 gs j) want (fun E=>A5p P bl E.ev H (fun d H'=>Z4 P bl gs K l (E.put o.dst d) H') o.op) (fun E=>Z4 P bl gs K l (E.put o.dst (.tuple [])) H)
def wp(P:Program)(Z:List (Nat×Rc)):Code→(AX→Env→Heap→Prop)→Env→Heap→Prop
 | .skip,Q,E,H=>Q .normal E H
 | .region id ops _,Q,E,H=>match A0k id Z with
  |none=>wpOps P (ops.toList.map (·.dst)) (Q .normal) ops.toList E H
  |some (.rd sx)=>∃bl,(∀k∈bl,H k≠none)∧A8L P sx bl (Q .normal) ops.toList E H
  |some .par=>∃(cs:Nat→CR) (bs:Nat→Bl),B39 bs 0 ops.toList∧wpP P (ops.toList.map (·.dst)) cs bs (Q .normal) 0 ops.toList E H
  |some (.ord perm)=>∃bl:List Nat,wpG P bl (Q .normal) (perm.map (A11 ops.toList)) E H
  |some .rg=>∃bl,(∀k∈bl,H k≠none)∧Z4 P bl (ops.toList.map (·.dst)) (Q .normal) ops.toList E H
  |some .wk=>∃E0 H0,A02 E0 H0 E H∧wpOps P (ops.toList.map (·.dst)) (Q .normal) ops.toList E0 H0
 | .seq a b,Q,E,H=>wp P Z a (fun x E H=>match x with| .normal=>wp P Z b Q E H| .exit i=>Q (.exit i) E H| .ret=>Q .ret E H) E H
 | .cond c x y,Q,E,H=>∃b,E.ev c= .bool b∧(b=true→wp P Z x Q (E.fix c true) H)∧(b=false→wp P Z y Q (E.fix c false) H)
 | .block id c,Q,E,H=>wp P Z c (fun x E H=>match x with| .normal=>Q .normal E H| .exit i=>if i=id then Q .normal E H else Q (.exit i) E H| .ret=>Q .ret E H) E H
 | .loop c,Q,E,H=>B2p (fun K=>wp P Z c fun x E H=>match x with| .normal=>K E H| .exit i=>Q (.exit i) E H| .ret=>Q .ret E H) E H
 | .exit id,Q,E,H=>Q (.exit id) E H
 | .ret,Q,E,H=>Q .ret E H
 | .scope c,Q,E,H=>wp P Z c Q E H
 | .label _,Q,E,H=>Q .normal E H
 |_,_,_,_=>False
def N6(P:Program)(Z:List (Nat×Rc))(N:Nat):Code→Bool
 | .region id ops d=>(ops.all fun o=>match o.dst with|some t=>decide (t<N)|none=>true)&&(match A0k id Z with|none=> !d||A4G P none ops|some (.rd sx)=> !d||A4G P (some sx) ops|some .par=>d&&B2o P ops|some (.ord perm)=>d&&B5c P ops perm|some .rg=> !d||A4G P (some true) ops|some .wk=> !d||A4G P none ops)
 | .seq a b=>N6 P Z N a&&N6 P Z N b
 | .cond _ x y=>N6 P Z N x&&N6 P Z N y
 | .block _ c=>N6 P Z N c
 | .loop c=>N6 P Z N c
 | .scope c=>N6 P Z N c
 |_=>true
section
variable {P:Program} {Z:List (Nat×Rc)} {N:Nat} {w0:World} {H0:Heap}
theorem St.ev{E:Env}{H:Heap}{a:Act}{w:World}(h:St N w0 H0 E H a w)(x:Operand):R w H (E.ev x) (a.eval x):=by
 cases x with
 |tmp t=>exact h.env t
 |const v=>exact A2S w H v
 |global g=>exact .glob g
 |func f=>exact .fn _ _ _ _ _ rfl rfl (by simp) (by simp)
theorem St.put{E:Env}{H H':Heap}{a:Act}{w w':World}(h:St N w0 H0 E H a w){dst:Option Tmp}(j: ∀t,dst=some t→t<N){d:D}{v:Value}(hv:R w' H' d v)(hs:Sat H' w')(he:Ext H w w')(g:From w H H'):
  St N w0 H0 (E.put dst d) H' (a.put dst v) w':=by
 refine⟨?_,?_,fun i=>?_,hs,h.ext.trans h.frm he,h.frm.trans h.ext.size g⟩
 ·cases dst<;>simp[Act.put,h.size]
 ·cases dst<;>exact h.defers
 ·cases dst with
  |none=>exact(h.env i).mono he g
  |some t=>
   have m:=j t rfl;simp only[Env.put,Env.get];by_cases e:t=i
   ·subst e;rw[if_pos rfl];have:(a.put (some t) v).eval (.tmp t)=v:=by
     have o:t<a.tmps.size:=by rw[h.size];exact m
     simp[Act.eval,Act.put,o]
    rw[this];exact hv
   ·rw[if_neg e];have:(a.put (some t) v).eval (.tmp i)=a.eval (.tmp i):=by
     simp[Act.eval,Act.put,D1E e]
    rw[this];exact(h.env i).mono he g
theorem St.know{E:Env}{H:Heap}{a:Act}{w:World}(h:St N w0 H0 E H a w){s:Nat}{d:D}(g:E.get s=d):St N w0 H0 ((s,d)::E) H a w:=by
 refine⟨h.size,h.defers,fun i=>?_,h.sat,h.ext,h.frm⟩;simp only[Env.get];by_cases e:s=i
 ·subst e;rw[if_pos rfl,←g];exact h.env s
 ·rw[if_neg e];exact h.env i
theorem St.weak{E d:Env}{H H':Heap}{a:Act}{w:World}(h:St N w0 H0 E H a w)(hw:A02 d H' E H):St N w0 H0 d H' a w:=hw _ _ _ _ _ h
theorem A8M{E e:Env}{H H':Heap}(o: ∀p∈e,E.get p.1=p.2)(hl:H'.Le H):A02 e H' E H:=by
 intro N w0 H0 a w h;refine⟨h.size,h.defers,fun i=>?_,h.sat.less hl,h.ext,h.frm.less hl⟩;have key: ∀(L:Env),(∀p∈L,E.get p.1=p.2)→R w H' (L.get i) (a.eval (.tmp i)):=by
  intro L
  induction L with
  |nil=>intro _;exact .undef _
  |cons p L q=>
   intro g;obtain⟨j,d⟩:=p;simp only[Env.get];by_cases m:j=i
   ·subst m;rw[if_pos rfl];have:=g (j,d) (by simp);simp only at this;rw[←this];exact(h.env j).less hl
   ·rw[if_neg m];exact q (fun p hp=>g p (by simp[hp]))
 exact key e o
theorem A0Y{ops:Array Oper}{K:Env→Heap→Prop}: ∀(l:List Oper) (E:Env) (H:Heap) (a:Act) (w:World),(∀o∈l,∀t,o.dst=some t→t<N)→wpOps P (ops.toList.map (·.dst)) K l E H→St N w0 H0 E H a w→
  wpA P none ops (fun a' w'=>∃i H',St N w0 H0 i H' a' w'∧K i H') l a w:=by
 intro l
 induction l with
 |nil=>intro E H a w _ h hst;exact⟨E,H,hst,h⟩
 |cons o l G=>
  intro E H a w I h hst;have q: ∀o∈l,∀t,o.dst=some t→t<N:=fun o' y=>I o' (by simp[y]);have r:=I o (by simp);have run: ∀E,St N w0 H0 E H a w→D1 P E.ev H (fun d H'=>wpOps P (ops.toList.map (·.dst)) K l (E.put o.dst d) H') o.op→opSem P none o a w fun v w'=>wpA P none ops (fun a' w'=>∃i H',St N w0 H0 i H' a' w'∧K i H') l (a.put o.dst v) w':=by
   intro E hst h;refine(N5 hst.sat hst.ev h).mono fun v w' hp=>?_;obtain⟨d,H',h1,z,L,M,h5⟩:=hp;exact G _ _ _ _ q h5 (hst.put r h1 z L M)
  have skip: ∀E,St N w0 H0 E H a w→wpOps P (ops.toList.map (·.dst)) K l (E.put o.dst (.tuple [])) H→wpA P none ops (fun a' w'=>∃i H',St N w0 H0 i H' a' w'∧K i H') l (a.put o.dst undef) w:=
   fun E hst h=>G _ _ _ _ q h (hst.put r (.tuple [] #[] rfl (by simp)) hst.sat (D18 _ _) (D17 _ _))
  unfold wpOps at h;unfold wpA;split at h
  ·rename_i m;rw[if_pos (by simp[Region.wanted,m])];exact run E hst h
  ·rename_i j g m;have e:I2 (ops.toList.map (·.dst)) j=(ops[j]?).bind (·.dst):=by
    unfold I2;rw[D0x];cases J:ops[j]? with
    |none=>simp[J]
    |some o=>simp[J]
   unfold A1y at h;split at h
   ·rename_i hs;have p:yielded ops a.tmps j=none:=by
     unfold yielded;rw[e]at hs;rw[hs];rfl
    rw[if_neg (by simp[Region.wanted,m,p])];exact skip E hst h
   ·rename_i s hs;rcases h with⟨O,h⟩|⟨b,hb,h1,z⟩
    ·have hv:=hst.env s;rw[O]at hv;obtain⟨vs,hv,_⟩:=hv.tuple_inv;have p:yielded ops a.tmps j=none:=by
      unfold yielded;rw[e]at hs;rw[hs];simp only[D04];simp only[Act.eval]at hv;cases x:a.tmps[s]? with
      |none=>rfl
      |some u=>
       simp[x]at hv;subst hv;rfl
     rw[if_neg (by simp[Region.wanted,m,p])];exact skip E hst h
    have hv:=hst.env s;rw[hb]at hv;have hv:=hv.bool_inv;have p:yielded ops a.tmps j=some b:=by
     unfold yielded;rw[e]at hs;rw[hs];simp only[D04];simp only[Act.eval]at hv;cases x:a.tmps[s]? with
     |none=>
      simp[x]at hv;cases hv
     |some u=>
      simp[x]at hv;subst hv;rfl
    by_cases A:b=g
    ·subst A;rw[if_pos (by simp[Region.wanted,m,p])];exact run _ (hst.know hb) (h1 rfl)
    ·have C:b= !g:=by cases b<;>cases g<;>simp_all
     subst C;rw[if_neg (by simp[Region.wanted,m,p])];exact skip _ (hst.know hb) (z rfl)
theorem A3X{ops:Array Oper}{bl:List Nat}{K:Env→Heap→Prop}: ∀(l:List Oper) (E:Env) (H:Heap) (a:Act) (w:World),(∀o∈l,∀t,o.dst=some t→t<N)→(∀k∈bl,k<w.heap.size)→Z4 P bl (ops.toList.map (·.dst)) K l E H→St N w0 H0 E H a w→
  wpA P (some (true,bl)) ops (fun a' w'=>∃i H',St N w0 H0 i H' a' w'∧K i H') l a w:=by
 intro l
 induction l with
 |nil=>intro E H a w _ _ h hst;exact⟨E,H,hst,h⟩
 |cons o l I=>
  intro E H a w J m h hst;have r: ∀o∈l,∀t,o.dst=some t→t<N:=fun o' z=>J o' (by simp[z]);have x:=J o (by simp);have run: ∀E,St N w0 H0 E H a w→A5p P bl E.ev H (fun d H'=>Z4 P bl (ops.toList.map (·.dst)) K l (E.put o.dst d) H') o.op→opSem P (some (true,bl)) o a w fun v w'=>wpA P (some (true,bl)) ops (fun a' w'=>∃i H',St N w0 H0 i H' a' w'∧K i H') l (a.put o.dst v) w':=by
   intro E hst h;refine(A9q m hst.sat hst.ev h).mono fun v w' hp=>?_;obtain⟨d,H',h1,A,L,O,h5⟩:=hp;exact I _ _ _ _ r (fun k hk=>D1W (m k hk) L.size) h5 (hst.put x h1 A L O)
  have skip: ∀E,St N w0 H0 E H a w→Z4 P bl (ops.toList.map (·.dst)) K l (E.put o.dst (.tuple [])) H→wpA P (some (true,bl)) ops (fun a' w'=>∃i H',St N w0 H0 i H' a' w'∧K i H') l (a.put o.dst undef) w:=
   fun E hst h=>I _ _ _ _ r m h (hst.put x (.tuple [] #[] rfl (by simp)) hst.sat (D18 _ _) (D17 _ _))
  unfold Z4 at h;unfold wpA;split at h
  ·rename_i p;rw[if_pos (by simp[Region.wanted,p])];exact run E hst h
  ·rename_i j g p;have e:I2 (ops.toList.map (·.dst)) j=(ops[j]?).bind (·.dst):=by
    unfold I2;rw[D0x];cases M:ops[j]? with
    |none=>simp[M]
    |some o=>simp[M]
   unfold A1y at h;split at h
   ·rename_i hs;have q:yielded ops a.tmps j=none:=by
     unfold yielded;rw[e]at hs;rw[hs];rfl
    rw[if_neg (by simp[Region.wanted,p,q])];exact skip E hst h
   ·rename_i s hs;rcases h with⟨T,h⟩|⟨b,hb,h1,A⟩
    ·have hv:=hst.env s;rw[T]at hv;obtain⟨vs,hv,_⟩:=hv.tuple_inv;have q:yielded ops a.tmps j=none:=by
      unfold yielded;rw[e]at hs;rw[hs];simp only[D04];simp only[Act.eval]at hv;cases y:a.tmps[s]? with
      |none=>rfl
      |some u=>
       simp[y]at hv;subst hv;rfl
     rw[if_neg (by simp[Region.wanted,p,q])];exact skip E hst h
    have hv:=hst.env s;rw[hb]at hv;have hv:=hv.bool_inv;have q:yielded ops a.tmps j=some b:=by
     unfold yielded;rw[e]at hs;rw[hs];simp only[D04];simp only[Act.eval]at hv;cases y:a.tmps[s]? with
     |none=>
      simp[y]at hv;cases hv
     |some u=>
      simp[y]at hv;subst hv;rfl
    by_cases C:b=g
    ·subst C;rw[if_pos (by simp[Region.wanted,p,q])];exact run _ (hst.know hb) (h1 rfl)
    ·have G:b= !g:=by cases b<;>cases g<;>simp_all
     subst G;rw[if_neg (by simp[Region.wanted,p,q])];exact skip _ (hst.know hb) (A rfl)
theorem A3Y{ops:Array Oper}{sx:Bool}{bl:List Nat}{K:Env→Heap→Prop}: ∀(l:List Oper) (E:Env) (H:Heap) (a:Act) (w:World),(∀o∈l,∀t,o.dst=some t→t<N)→(∀k∈bl,k<w.heap.size)→A8L P sx bl K l E H→St N w0 H0 E H a w→
  wpA P (some (sx,bl)) ops (fun a' w'=>∃i H',St N w0 H0 i H' a' w'∧K i H') l a w:=by
 intro l
 induction l with
 |nil=>intro E H a w _ _ h hst;exact⟨E,H,hst,h⟩
 |cons o l p=>
  intro E H a w j e h hst;obtain⟨q,h⟩:=h;unfold wpA;rw[if_pos (by simp[Region.wanted,q])];refine(A1v e hst.sat hst.ev h).mono fun v w' hp=>?_;obtain⟨d,H',h1,r,m,u,h5⟩:=hp;exact p _ _ _ _ (fun o' g=>j o' (by simp[g])) (fun k hk=>D1W (e k hk) m.size) h5 (hst.put (j o (by simp)) h1 r m u)
def lift(N:Nat)(w0:World)(H0:Heap)(Q:AX→Env→Heap→Prop):Exit→Act→World→Prop
 | .normal,a,w=>∃E H,St N w0 H0 E H a w∧Q .normal E H
 | .exit id,a,w=>∃E H,St N w0 H0 E H a w∧Q (.exit id) E H
 | .ret,a,w=>∃E H,St N w0 H0 E H a w∧Q .ret E H
 |_,_,_=>False
theorem B5e{c:Code}{Q:Exit→Act→World→Prop}(I:Nat→Act→World→Prop){n:Nat}{a:Act}{w:World}(p:I n a w)
  (g: ∀n a w,I n a w→c.wp P (Exit.then (fun a' w'=>∃m,m<n∧I m a' w') Q) a w):(Code.loop c).wp P Q a w:=by
 intro b k cs;have key: ∀n a w,I n a w→∃e a' w',Q e a' w'∧Arrives P (lone (b.at a (.code c:: .inLoop c::k)) cs w) b k cs e a' w':=by
  intro n
  induction n using Nat.strongRecOn with
  |_ n q=>
   intro a w r;obtain⟨e,a1,i,hq,d⟩:=g n a w r b (.inLoop c::k) cs;cases e with
   |normal=>
    obtain⟨m,hm,j⟩:=hq;obtain⟨e2,a2,u,o,h⟩:=q m hm a1 i j;exact⟨e2,a2,u,o,.of_steps (Steps.trans d (.one step_inLoop)) h⟩
   |exit id=>exact⟨_,a1,i,hq,.pass (x:=.inLoop c) rfl (fun _ _=>.inl (by simp)) d⟩
   |goto l=>exact⟨_,a1,i,hq,.pass (x:=.inLoop c) rfl (fun _ _=>.inl (by simp)) d⟩
   |ret=>exact⟨_,a1,i,hq,.pass (x:=.inLoop c) rfl (fun _ _=>.inl (by simp)) d⟩
   |panic y=>exact⟨_,a1,i,hq,.pass (x:=.inLoop c) rfl (fun _ _=>.inl (by simp)) d⟩
   |outgrown=>exact⟨_,a1,i,hq,.pass (x:=.inLoop c) rfl (fun _ _=>.inl (by simp)) d⟩
 obtain⟨e,a',w',hq,d⟩:=key n a w p;exact⟨e,a',w',hq,.of_steps (.one step_loop) d⟩
theorem A0A(hm:P.follows .mixedOrders=true): ∀(c:Code) (Q:AX→Env→Heap→Prop) (E:Env) (H:Heap) (a:Act) (w:World),N6 P Z N c=true→wp P Z c Q E H→St N w0 H0 E H a w→c.wp P (lift N w0 H0 Q) a w:=by
  intro c
  induction c with
  |skip=>intro Q E H a w _ h hst;exact Go.wp_skip ⟨E,H,hst,h⟩
  |region id ops d=>
    intro Q E H a w g h hst;simp only[N6,D0n]at g
    have A: ∀o∈ops.toList,∀t,o.dst=some t→t<N:=fun o ho t U=>by
      have:=Array.all_eq_true_iff_forall_mem.1 g.1 o (by simpa using ho);rw[U]at this;simpa using this
    have he:Ext H w {w with drawn:=w.drawn+1}:=Ext.drewN H w 1;have p:St N w0 H0 E H a {w with drawn:=w.drawn+1}:=⟨hst.size,hst.defers,fun i=>(hst.env i).mono he (D17 _ _),hst.sat.same rfl he,hst.ext.trans hst.frm he,hst.frm⟩
    unfold wp at h;cases hz:A0k id Z with
    |none=>
      rw[hz]at h g;cases d with
      |false=>exact y5 (fun a w h=>h) (A0Y ops.toList E H a w A h hst)
      |true=>exact A3V (F:=none) hm (by simpa using g.2) (fun a w h=>h) (A0Y ops.toList E H a _ A h p)
    |some rc=>
      rw[hz]at h g;cases rc with
      |par=>
        simp only[D0n]at g;obtain⟨_,J,u⟩:=g;subst J;obtain⟨cs,bs,Y,h⟩:=h;exact B5a hm u A (fun E H a w k1 k2 k3 k4 k5 k6 hk=>⟨E,H,⟨k1,k2,k3,k4,k5,k6⟩,hk⟩) hst.size hst.defers hst.env hst.sat hst.ext hst.frm Y h
      |ord perm=>
        simp only[D0n]at g;obtain⟨_,J,u⟩:=g;subst J;obtain⟨bl,h⟩:=h;exact B5d hm u A (fun E H a w k1 k2 k3 k4 k5 k6 hk=>⟨E,H,⟨k1,k2,k3,k4,k5,k6⟩,hk⟩) hst.size hst.defers hst.env hst.sat hst.ext hst.frm h
      |wk=>
        obtain⟨E0,W,C,h⟩:=h
        (cases d with
        |false=>exact y5 (fun a w h=>h) (A0Y ops.toList E0 W a w A h (hst.weak C))
        |true=>exact A3V (F:=none) hm (by simpa using g.2) (fun a w h=>h) (A0Y ops.toList E0 W a _ A h (p.weak C)))
      |rg=>
      obtain⟨bl,L,h⟩:=h
      have z: ∀w:World,Sat H w→∀k∈bl,k<w.heap.size:=fun w hs k hk=>by
        cases ho:H k with
        |none=>exact absurd ho (L k hk)
        |some o=>exact hs.lt ho
      (cases d with
      |false=>exact y5 (fun a w h=>h) (A3X (bl:=bl) ops.toList E H a w A (z _ hst.sat) h hst)
      |true=>exact A3V (F:=some (true,bl)) hm (by simpa using g.2) (fun a w h=>h) (A3X (bl:=bl) ops.toList E H a _ A (z _ p.sat) h p))
      |rd sx=>
      obtain⟨bl,L,h⟩:=h
      have z: ∀w:World,Sat H w→∀k∈bl,k<w.heap.size:=fun w hs k hk=>by
        cases ho:H k with
        |none=>exact absurd ho (L k hk)
        |some o=>exact hs.lt ho
      cases d with
      |false=>exact y5 (fun a w h=>h) (A3Y (sx:=sx) (bl:=bl) ops.toList E H a w A (z _ hst.sat) h hst)
      |true=>exact A3V (F:=some (sx,bl)) hm (by simpa using g.2) (fun a w h=>h) (A3Y (sx:=sx) (bl:=bl) ops.toList E H a _ A (z _ p.sat) h p)
  |seq x y M O=>
    intro Q E H a w g h hst;simp only[N6,D0n]at g;refine Go.wp_seq (Go.wp_mono (M _ E H a w g.1 h hst) fun e a' w' he=>?_);cases e with
    |normal=>obtain⟨r,H',j,q⟩:=he;exact O Q r H' a' w' g.2 q j
    |exit id=>obtain⟨r,H',j,q⟩:=he;exact⟨r,H',j,q⟩
    |ret=>obtain⟨r,H',j,q⟩:=he;exact⟨r,H',j,q⟩
    |_=>exact he.elim
  |cond c x y M O=>
    intro Q E H a w g h hst;simp only[N6,D0n]at g;obtain⟨b,hb,h1,h2⟩:=h;have hv:=hst.ev c;rw[hb]at hv
    have G: ∀b',E.ev c= .bool b'→St N w0 H0 (E.fix c b') H a w:=fun b' a0=>by
      cases c with
      |tmp t=>exact hst.know a0
      |_=>exact hst
    refine Go.wp_cond_split hv.bool_inv (fun U=>?_) (fun U=>?_)
    · subst U;exact M Q _ H a w g.1 (h1 rfl) (G _ hb)
    · subst U;exact O Q _ H a w g.2 (h2 rfl) (G _ hb)
  |block id c V=>
    intro Q E H a w g h hst;simp only[N6]at g;refine Go.wp_block (Go.wp_mono (V _ E H a w g h hst) fun e a' w' he=>?_);cases e with
    |normal=>obtain⟨r,H',j,q⟩:=he;exact⟨r,H',j,q⟩
    |exit i=>
      obtain⟨r,H',j,q⟩:=he;simp only[Exit.inBlock];by_cases X:i=id
      · rw[if_pos X];simp only[X,if_true]at q;exact⟨r,H',j,q⟩
      · rw[if_neg X];simp only[X,if_false]at q;exact⟨r,H',j,q⟩
    |ret=>obtain⟨r,H',j,q⟩:=he;exact⟨r,H',j,q⟩
    |_=>exact he.elim
  |loop c V=>
    intro Q E H a w g h hst;simp only[N6]at g;obtain⟨I,⟨n,E0,W,hw,hI⟩,T⟩:=h;refine B5e (fun n a w=>∃E H,St N w0 H0 E H a w∧I n E H) (n:=n) ⟨E0,W,hst.weak hw,hI⟩ fun n a w a4=>?_;obtain⟨E1,H1,p,a5⟩:=a4;refine Go.wp_mono (V _ E1 H1 a w g (T n E1 H1 a5) p) fun e a' w' he=>?_;cases e with
    |normal=>
      obtain⟨r,H',j,m,E2,H2,a6,C,a9⟩:=he;exact⟨m,a6,E2,H2,j.weak C,a9⟩
    |exit id=>obtain⟨r,H',j,q⟩:=he;exact⟨r,H',j,q⟩
    |ret=>obtain⟨r,H',j,q⟩:=he;exact⟨r,H',j,q⟩
    |_=>exact he.elim
  |exit id=>intro Q E H a w _ h hst;exact Go.wp_exit ⟨E,H,hst,h⟩
  |ret=>intro Q E H a w _ h hst;exact Go.wp_ret ⟨E,H,hst,h⟩
  |scope c V=>
    intro Q E H a w g h hst;simp only[N6]at g;refine Go.wp_scope_straight (Go.wp_mono (V Q E H a w g h hst) fun e a' w' he=>?_);cases e with
    |goto l=>exact he.elim
    |_=>exact he
  |label l=>intro Q E H a w _ h hst;exact Go.wp_label ⟨E,H,hst,h⟩
  |_=>intro Q E H a w _ h _;exact h.elim
end
def A0Z(P:Program)(E:Env)(H:Heap):ResultVar→Option D
 | .tmp t=>some (E.get t)
 | .cell a t=>y9 P t (E.get a) H
def A21(P:Program)(rs:List ResultVar)(E:Env)(H:Heap):Option D:=(rs.mapM (A0Z P E H)).map fun
 | [d]=>d
 |ds=>.tuple ds
def Shift(H:Heap)(d:D)(H':Heap)(d':D):Prop:=∀w v,R w H d v→Sat H w→R w H' d' v∧Sat H' w∧∀k,H.held k=false→H'.held k=false
theorem Shift.less{H H':Heap}(h:H'.Le H)(d:D):Shift H d H' d:=fun _ _ hr hs=>⟨hr.less h,hs.less h,fun _ hn=>h.held hn⟩
theorem Shift.trans{H H' j:Heap}{d d' m:D}(h:Shift H d H' d')(k:Shift H' d' j m):Shift H d j m:=fun w v hr hs=>
 let ⟨a,b,c⟩:=h w v hr hs;let ⟨e,f,g⟩:=k w v a b;⟨e,f,fun i o=>g i (c i o)⟩
def A8N(P:Program)(rs:List ResultVar)(Q:D→Heap→Prop):AX→Env→Heap→Prop
 | .exit _,_,_=>False
 |_,E,H=>∃r,A21 P rs E H=some r∧∃H' r',Shift H r H' r'∧Q r' H'
def W9:Nat→List D→Env
 |_,[]=>[]
 |i,d::ds=>(i,d)::W9 (i+1) ds
section
variable {P:Program}
theorem A0B: ∀(ds:List D) (k i:Nat),(W9 k ds).get i=if k≤i then(ds[i-k]?).getD .undef else .undef
 | [],k,i=>by simp[W9,Env.get]
 |d::ds,k,i=>by
  simp only[W9,Env.get];by_cases e:k=i
  ·subst e;rw[if_pos rfl,if_pos (D0u _)];simp
  ·rw[if_neg e,A0B ds];by_cases h:k+1≤i
   ·rw[if_pos h,if_pos (by omega),show i-k=(i-(k+1))+1 by omega,D06]
   ·rw[if_neg h,if_neg (by omega)]
theorem A2X{N:Nat}{w0:World}{H0:Heap}{E:Env}{H:Heap}{a:Act}{w:World}(hst:St N w0 H0 E H a w){fn:Func}{r:D}(h:A21 P fn.results.toList E H=some r):
  ∃v,(results fn a.tmps).run P w= .ok v w∧R w H r v:=by
 unfold A21 at h;obtain⟨ds,G,hr⟩:=D0j.1 h;have key: ∀(p:List ResultVar) (ds:List D),p.mapM (A0Z P E H)=some ds→∃vs:List Value,(p.mapM fun(x:ResultVar)=>match x with| .tmp t=>(pure (a.tmps.getD t undef):Sem Value)| .cell b t=>do loadVar t (←asAddr (a.tmps.getD b undef))).run P w= .ok vs w∧ds.length=vs.length∧∀(i:Nat) d,ds[i]? =some d→R w H d (vs.getD i Go.undef):=by
  intro p
  induction p with
  |nil=>intro ds h;simp at h;subst h;exact⟨[],rfl,rfl,by simp⟩
  |cons x p T=>
   intro ds h;simp only[List.mapM_cons,Option.bind_eq_bind,D0m,Option.pure_def]at h;obtain⟨U,C,V,h1,W⟩:=h;cases W;obtain⟨vs,g,hl,e⟩:=T V h1;have one: ∃v,(match x with| .tmp t=>(pure (a.tmps.getD t undef):Sem Value)| .cell b t=>do loadVar t (←asAddr (a.tmps.getD b undef))).run P w= .ok v w∧R w H U v:=by
    cases x with
    |tmp t=>
     simp only[A0Z,D1C]at C;subst C;exact⟨_,rfl,hst.env t⟩
    |cell b t=>
     simp only[A0Z]at C;obtain⟨u,j,I⟩:=A5q (P:=P) hst.sat C (hst.env b);refine⟨u,?_,I⟩;unfold Instr.loadAt at j;simp only[Act.eval]at j;have J: ∀(z:Value) (A:Addr) (w:World),(Instr.sureAddr z).run P w= .ok A w→(asAddr z).run P w= .ok A w:=by
      intro z A w L;cases z with
      |pointer o=>
       cases o with
       |none=>exact absurd L (by simp[Instr.sureAddr,stuck])
       |some y=>exact L
      |_=>exact absurd L (by simp[Instr.sureAddr,stuck])
     rw[Sem.run_bind]at j⊢;cases hs:(Instr.sureAddr (a.tmps.getD b undef)).run P w with
     |ok A w'=>
      have M:w'=w:=by
       unfold Instr.sureAddr at hs;split at hs
       ·cases hs;rfl
       ·cases hs
      subst M;rw[hs]at j;rw[J _ _ _ hs];exact j
     |halt x w'=>rw[hs]at j;cases j
   obtain⟨v,hv,O⟩:=one;refine⟨v::vs,?_,by simp[hl],fun i d m=>?_⟩
   ·rw[List.mapM_cons,Sem.run_bind,hv];simp only[Result.andThen_ok];rw[Sem.run_bind,g];rfl
   ·cases i with
    |zero=>simp at m;subst m;simpa using O
    |succ i=>simp at m;simpa using e i d m
 obtain⟨vs,g,hl,e⟩:=key _ _ G;have q:(results fn a.tmps).run P w= .ok (if h:vs.toArray.size=1 then vs.toArray[0]else .tuple vs.toArray) w:=by
  unfold results;rw[Sem.run_bind,Array.mapM_eq_mapM_toList];simp only[Functor.map];rw[Sem.run_bind'];exact congrArg (fun r:Result (List Value)=>(r.andThen fun a w'=>Sem.run P ((Sem.pure ∘ List.toArray) a) w').andThen fun a w'=>Sem.run P (pure (if h:a.size=1 then a[0]else Value.tuple a)) w') g
 refine⟨_,q,?_⟩
 match ds,vs,hl,hr,e with
 | [d],[v],_,hr,e=>simp only at hr;subst hr;simpa using e 0 d rfl
 | [],[],_,hr,e=>simp only at hr;subst hr;exact .tuple _ _ rfl (by simp)
 |d1::X::ds,v1::v2::vs,hl,hr,e=>
  simp only at hr;subst hr;rw[dif_neg (by simp)];exact .tuple _ _ (by simpa using hl) (fun i d m=>by simpa using e i d m)
theorem A8O{f:Nat}(Z:List (Nat×Rc)){fn:Func}{c:Code}{args:List D}{H:Heap}{Q:D→Heap→Prop}(hm:P.follows .mixedOrders=true)(C:P.funcs[f]? =some fn)(hb:fn.body=some c)(o:A1t P f=true)(hn:args.length≤fn.ntmps)
  (p:N6 P Z fn.ntmps c=true) (h:wp P Z c (A8N P fn.results.toList Q) (W9 0 args) H):ACalls P f args H Q:=by
 refine⟨o,fun w vs hl G hs=>calls_of_wp C hb ?_⟩;have hst:St fn.ntmps w H (W9 0 args) H {tmps:=vs++Array.replicate (fn.ntmps-vs.size) undef,defers:=[]} w:=by
  refine⟨by simp;omega,rfl,fun i=>?_,hs,D18 _ _,D17 _ _⟩;rw[A0B,if_pos (D0v _),Nat.sub_zero];cases z:args[i]? with
  |none=>exact .undef _
  |some d=>
   have I:=(D0k.1 z).1;have:({tmps:=vs++Array.replicate (fn.ntmps-vs.size) undef,defers:=[]}:Act).eval (.tmp i)=vs.getD i undef:=by
    simp only[Act.eval];exact G2 (by omega)
   rw[this];exact G i d z
 have fin: ∀(x:AX) (E:Env) (H':Heap) (a:Act) (w':World),(x= .normal∨x= .ret)→St fn.ntmps w H E H' a w'→A8N P fn.results.toList Q x E H'→
   a.defers= []∧∃v,(results fn a.tmps).run P w'= .ok v w'∧∃A,Ending.returned v= .returned A∧Post H w Q A w':=by
  intro x E H' a w' hx g hq;have q: ∃r,A21 P fn.results.toList E H'=some r∧∃j m,Shift H' r j m∧Q m j:=by rcases hx with rfl|rfl<;>exact hq
  obtain⟨r,hr,j,m,u,J⟩:=q;obtain⟨v,hv,y⟩:=A2X (P:=P) g hr;obtain⟨L,M,O⟩:=u _ _ y g.sat;exact⟨g.defers,v,hv,v,rfl,m,j,L,M,g.ext,fun k hk hn=>O k (g.frm k hk hn),J⟩
 refine Go.wp_mono (A0A hm c _ _ _ _ _ p h hst) fun e a w' he=>?_;cases e with
 |normal=>obtain⟨E,H',g,hq⟩:=he;exact fin .normal E H' a w' (.inl rfl) g hq
 |ret=>obtain⟨E,H',g,hq⟩:=he;exact fin .ret E H' a w' (.inr rfl) g hq
 |exit id=>obtain⟨E,H',g,hq⟩:=he;exact hq.elim
 |_=>exact he.elim
theorem A9{f:Nat}(Z:List (Nat×Rc)){fn:Func}{c:Code}{args:List D}{H:Heap}{Q:D→Heap→Prop}(hm:P.follows .mixedOrders=true)(g:P.funcs[f]? =some fn)(hb:fn.body=some c)
  (h:wp P Z c (A8N P fn.results.toList Q) (W9 0 args) H) (d:A1t P f=true:=by kernel_rfl) (hn:args.length≤fn.ntmps:=by exact D0b (by kernel_rfl)) (e:N6 P Z fn.ntmps c=true:=by kernel_rfl):ACalls P f args H Q:=A8O Z hm g hb d hn e h
theorem ACalls.shift{f:Nat}{args args':List D}{H H':Heap}{Q:D→Heap→Prop}(hs: ∀w (vs:Array Value),args.length=vs.size→(∀(i:Nat) d,args[i]? =some d→R w H d (vs.getD i Go.undef))→Sat H w→
  args'.length=vs.size∧(∀(i:Nat) d,args'[i]? =some d→R w H' d (vs.getD i Go.undef))∧Sat H' w∧∀k,H.held k=false→H'.held k=false) (h:ACalls P f args' H' Q):ACalls P f args H Q:=by
 refine⟨h.1,fun w vs h1 m o=>?_⟩;obtain⟨p,q,r,j⟩:=hs w vs h1 m o;refine(h.2 w vs p q r).mono fun e w' ⟨v,he,d,u,x,y,g,z,A⟩=>⟨v,he,d,u,x,y,⟨g.os,g.tape,g.output,g.size,fun k hk hn=>g.block k hk (j k hn),g.shape⟩,fun k hk hn=>z k hk (j k hn),A⟩
theorem E6(H:Heap)(b:Nat):(H.del b).Le H:=fun k o h=>by
 unfold Heap.del at h;split at h
 ·cases h
 ·exact h
theorem A54{w:World}{H:Heap}{b sz lo n:Nat}{es:List (List D)}{v:Value}(hr:R w H (.vec b sz lo n) v)(hs:Sat H w)(hb:H b=some (.vec sz es))(hn:lo+n≤es.length):
  R w (H.del b) (.sl sz ((es.drop lo).take n)) v:=by
 have p:=hs.lt hb;obtain⟨c,T,x,y,h1,G,I,o⟩:=A2T (hs b _ hb);cases hr with
 |vec0 b sz lo off=>rw[List.take_zero];exact .sl0 _ _ _
 |vec b sz lo n cap T m z A hsz q=>
 have hlen:((es.drop lo).take n).length=n:=by simp;omega
 have g: ∀(i:Nat) (e:List D),((es.drop lo).take n)[i]? =some e→i<n∧es[lo+i]? =some e:=fun i e he=>by
  have h:=(D0k.1 he).1;rw[hlen]at h;rw[List.getElem?_take_of_lt h,List.getElem?_drop]at he;exact⟨h,he⟩
 have u:=R.sl (w:=w) (H:=H.del b) sz ((es.drop lo).take n) b (lo*sz) cap (fun i j=>c.getD ((lo+i)*sz+j) Go.undef) p (I1 (by simp[Heap.del]))
  (fun i e he=>o.each _ _ (g i e he).2) (by rw[hlen];exact q) (fun i j h J=>?_) (fun i e j d he r=>o.one _ _ _ _ (g i e he).2 r)
  (fun i e j d he r=>(o.rel _ _ _ _ (g i e he).2 r).less (E6 H b))
 ·rw[hlen]at u;exact u
 ·rw[hlen]at h;have e1:lo*sz+i*sz+j=(lo+i)*sz+j:=by rw[Nat.add_mul]
  rw[e1,U1 h1];have h5:(lo+i+1)*sz≤es.length*sz:=D1G _ (by omega);rw[Nat.add_mul (lo+i),Nat.one_mul]at h5;have L:=o.le;have C:(lo+i)*sz+j<c.size:=by omega
  simp[C]
inductive Fz(b sz:Nat)(es:List (List D)):D→D→Prop
 |same (d:D):Fz b sz es d d
 |nil (sz':Nat):Fz b sz es .nilsl (.sl sz' [])
 |vec (lo n:Nat) (h:lo+n≤es.length):Fz b sz es (.vec b sz lo n) (.sl sz ((es.drop lo).take n))
 |all:Fz b sz es (.vec b sz 0 es.length) (.sl sz es)
 |tuple (ds ds':List D) (hl:ds.length=ds'.length) (h: ∀(i:Nat) d d',ds[i]? =some d→ds'[i]? =some d'→Fz b sz es d d'):Fz b sz es (.tuple ds) (.tuple ds')
theorem Fz.R{w:World}{H:Heap}{b sz:Nat}{es:List (List D)}(hs:Sat H w)(hb:H b=some (.vec sz es)){d d':D}(h:Fz b sz es d d'): ∀{v:Value},R w H d v→R w (H.del b) d' v:=by
 induction h with
 |same d=>exact fun hr=>hr.less (E6 H b)
 |nil sz'=>intro v hr;cases hr;exact .sl0 _ _ _
 |vec lo n h=>exact fun hr=>A54 hr hs hb h
 |all=>intro v hr;have:=A54 hr hs hb (by omega);rwa [List.drop_zero,List.take_length]at this
 |tuple ds ds' hl h m=>
  intro v hr;obtain⟨vs,rfl,o,g⟩:=hr.tuple_inv;refine .tuple _ _ (by omega) fun i d' e=>?_;have p:=(D0k.1 e).1;have j:ds[i]? =some (ds[i]'(by omega)):=D0r _;exact m i _ _ j e (g i _ j)
theorem Fz.one{b sz:Nat}{es:List (List D)}{d d':D}(h:Fz b sz es d d')(h1:d.one=true):d'.one=true:=by
 cases h with
 |same=>exact h1
 |nil=>rfl
 |vec=>rfl
 |all=>rfl
 |tuple=>cases h1
inductive OFz(b sz:Nat)(es:List (List D)):Obj→Obj→Prop
 |same (o:Obj):OFz b sz es o o
 |box (cs cs':List D) (Z:Option TypeId) (hl:cs.length=cs'.length) (h: ∀(i:Nat) d d',cs[i]? =some d→cs'[i]? =some d'→Fz b sz es d d'):OFz b sz es (.box cs Z) (.box cs' Z)
 |vec (s:Nat) (xs xs':List (List D)) (hl:xs.length=xs'.length) (h: ∀(i:Nat) x x',xs[i]? =some x→xs'[i]? =some x'→x.length=x'.length∧∀(j:Nat) d d',x[j]? =some d→x'[j]? =some d'→Fz b sz es d d'):OFz b sz es (.vec s xs) (.vec s xs')
theorem A12{E A:Env}{H H':Heap}{b sz:Nat}{es:List (List D)}(hb:H b=some (.vec sz es))(hE: ∀p∈A,Fz b sz es (E.get p.1) p.2)
  (C: ∀k o',H' k=some o'→k≠b∧∃o,H k=some o∧OFz b sz es o o'):A02 A H' E H:=by
 intro N w0 Hz a w hst;have hs:=hst.sat;have e: ∀k,H.held k=false→H'.held k=false:=fun k hk=>by
  cases ho:H' k with
  |none=>exact I1 ho
  |some o'=>
   obtain⟨_,o,h1,G⟩:=C k o' ho;rw[J5 h1]at hk;rw[J5 ho];cases G<;>exact hk
 have I: ∀{d d':D} {v:Value},Fz b sz es d d'→R w H d v→R w H' d' v:=fun u hr=>(u.R hs hb hr).mono (D18 _ _) fun k _ hk=>by
  by_cases x:k=b
  ·subst x;cases ho:H' k with
   |none=>exact I1 ho
   |some o'=>exact absurd rfl (C k o' ho).1
  ·refine e k ?_;rw[←A0V (H:=H) (H':=H.del b) (k:=k) (by unfold Heap.del;rw[if_neg x])];exact hk
 refine⟨hst.size,hst.defers,fun i=>?_,fun k o' ho=>?_,hst.ext,fun k hk hn=>e k (hst.frm k hk hn)⟩
 ·have key: ∀(L:Env),(∀p∈L,Fz b sz es (E.get p.1) p.2)→R w H' (L.get i) (a.eval (.tmp i)):=by
   intro L
   induction L with
   |nil=>intro _;exact .undef _
   |cons p L ih=>
    intro W;obtain⟨j,d⟩:=p;simp only[Env.get];by_cases y:j=i
    ·subst y;rw[if_pos rfl];exact I (W (j,d) (by simp)) (hst.env j)
    ·rw[if_neg y];exact ih (fun p hp=>W p (by simp[hp]))
  exact key A hE
 ·obtain⟨_,o,h1,G⟩:=C k o' ho;have q:=hs k o h1;cases G with
  |same=>exact q.mono (D18 H w) (fun k _ hk=>e k hk) rfl
  |box cs cs' Z hl u=>
   obtain⟨c,T,lo,J,M,O,X,z,U⟩:=q;refine⟨c,T,lo,J,M,O,by omega,fun j d' g=>?_,U⟩;have y:=(D0k.1 g).1;have r:cs[j]? =some (cs[j]'(by omega)):=D0r _;have m:=u j _ _ r g;exact⟨m.one (z j _ r).1,I m (z j _ r).2⟩
  |vec s xs xs' hl u=>
   obtain⟨c,T,lo,J,M,O,X,z,U,Y⟩:=q;refine⟨c,T,lo,J,M,O,X,by rw[←hl];exact z,fun i x' h=>?_,fun i x' j d' h g=>?_⟩
   ·have V:=(D0k.1 h).1;have hx:xs[i]? =some (xs[i]'(by omega)):=D0r _;rw[←(u i _ _ hx h).1];exact U i _ hx
   ·have V:=(D0k.1 h).1;have hx:xs[i]? =some (xs[i]'(by omega)):=D0r _;obtain⟨hlen,m⟩:=u i _ _ hx h;have y:=(D0k.1 g).1;have r:(xs[i]'(by omega))[j]? =some ((xs[i]'(by omega))[j]'(by omega)):=D0r _;have hz:=m j _ _ r g;exact⟨hz.one (Y i _ j _ hx r).1,I hz (Y i _ j _ hx r).2⟩
theorem Shift.freeze{H:Heap}{b sz:Nat}{es:List (List D)}(hb:H b=some (.vec sz es)){d d':D}(h:Fz b sz es d d'):Shift H d (H.del b) d':=fun w v hr hs=>
 ⟨h.R hs hb hr,hs.less (E6 H b),fun _ hn=>(E6 H b).held hn⟩
theorem ACalls.freeze{f:Nat}{args args':List D}{H:Heap}{Q:D→Heap→Prop}{b sz:Nat}{es:List (List D)}(hb:H b=some (.vec sz es))(hl:args.length=args'.length)(m: ∀(i:Nat) d d',args[i]? =some d→args'[i]? =some d'→Fz b sz es d d')
  (h:ACalls P f args' (H.del b) Q):ACalls P f args H Q:=
 h.shift fun w vs h1 o g=>⟨by omega,fun i d' e=>by
  have p:=(D0k.1 e).1;have j:args[i]? =some (args[i]'(by omega)):=D0r _;exact(m i _ _ j e).R g hb (o i _ j),g.less (E6 H b),fun _ hn=>(E6 H b).held hn⟩
theorem R.nil_sl{w:World}{H:Heap}{v:Value}(sz:Nat)(h:R w H .nilsl v):R w H (.sl sz []) v:=by cases h;exact .sl0 _ _ _
theorem B1N{f:Nat}{H:Heap}{Q:D→Heap→Prop}(sz:Nat)(h:ACalls P f [.sl sz []] H Q):ACalls P f [.nilsl] H Q:=
 ACalls.shift (args':=[.sl sz []]) (fun w vs h1 g j=>⟨h1,fun i d e=>by
  match i,e with
  |0,e=>simp at e;subst e;exact(g 0 _ rfl).nil_sl sz
  |i+1,e=>simp at e,j,fun _ hn=>hn⟩) h
theorem A0g{f:Nat}{a:D}{H:Heap}{Q:D→Heap→Prop}(sz:Nat)(h:ACalls P f [a,.sl sz []] H Q):ACalls P f [a,.nilsl] H Q:=
 ACalls.shift (args':=[a,.sl sz []]) (fun w vs h1 g j=>⟨h1,fun i d e=>by
  match i,e with
  |0,e=>simp at e;subst e;exact g 0 _ rfl
  |1,e=>simp at e;subst e;exact(g 1 _ rfl).nil_sl sz
  |i+2,e=>simp at e,j,fun _ hn=>hn⟩) h
end
def B(s:ByteArray):List UInt8:=s.data.toList
@[simp] theorem U6(s:ByteArray):(B s).length=s.size:=by simp[B]
theorem U7{s t:ByteArray}(h:B s=B t):s=t:=by
 apply ByteArray.ext;unfold B at h;exact Array.toList_inj.1 h
def S(l:List UInt8):ByteArray:=⟨l.toArray⟩
@[go_sem] theorem x9(l:List UInt8):B (S l)=l:=by simp[B,S]
theorem S_B(s:ByteArray):S (B s)=s:=U7 (x9 _)
@[go_sem] theorem P0(l:List UInt8):(S l).size=l.length:=by rw[←U6,x9]
theorem C5d{l m:List UInt8}(h:S l=S m):l=m:=by rw[←x9 l,h,x9]
@[go_sem] theorem D0J(l:List UInt8):B (ByteArray.mk l.toArray)=l:=x9 l
@[go_sem] theorem A0C(x y:ByteArray):B (x++y)=B x++B y:=by simp[B,ByteArray.data_append]
attribute [go_sem] U6
theorem A4L(s:ByteArray)(l h:Nat):s.extract l h=S (((B s).take h).drop l):=by
 apply U7;rw[x9];simp[B,ByteArray.data_extract,List.extract_eq_take_drop];rw[List.drop_take]
theorem A0a(l:List UInt8):B ⟨l.toArray⟩=l:=by simp[B]
def B8p(P:Program)(Z:List (Nat×Rc))(b:Code)(Q:AX→Env→Heap→Prop):AX→Env→Heap→Prop
 | .normal,E,H=>wp P Z b Q E H
 | .exit i,E,H=>Q (.exit i) E H
 | .ret,E,H=>Q .ret E H
def A8P(id:Nat)(Q:AX→Env→Heap→Prop):AX→Env→Heap→Prop
 | .normal,E,H=>Q .normal E H
 | .exit i,E,H=>if i=id then Q .normal E H else Q (.exit i) E H
 | .ret,E,H=>Q .ret E H
def A55(Q:AX→Env→Heap→Prop)(K:Env→Heap→Prop):AX→Env→Heap→Prop
 | .normal,E,H=>K E H
 | .exit i,E,H=>Q (.exit i) E H
 | .ret,E,H=>Q .ret E H
def B2q(Q:AX→Env→Heap→Prop):Env→Heap→Prop:=fun E H=>Q .normal E H
def B5f(P:Program)(Z:List (Nat×Rc))(c:Code)(Q:AX→Env→Heap→Prop)(E:Env)(H:Heap):Prop:=B2p (fun K=>wp P Z c (A55 Q K)) E H
def opK(P:Program)(gs:List (Option Nat))(K:Env→Heap→Prop)(l:List Oper)(dst:Option Nat)(E:Env):D→Heap→Prop:=fun d H=>wpOps P gs K l (E.put dst d) H
def S2(o:Option D)(K:D→Heap→Prop)(H:Heap):Prop:=∃d,o=some d∧K d H
def A93(o:Option Heap)(K:D→Heap→Prop):Prop:=∃H',o=some H'∧K .undef H'
def A94(P:Program)(Z:List (Nat×Rc))(c:Operand)(d:D)(x y:Code)(Q:AX→Env→Heap→Prop)(E:Env)(H:Heap):Prop:=∃b,d= .bool b∧(b=true→wp P Z x Q (E.fix c true) H)∧(b=false→wp P Z y Q (E.fix c false) H)
def A0l(P:Program)(gs:List (Option Nat))(K:Env→Heap→Prop)(l:List Oper)(dst:Option Nat)(op:Op)(s:Nat)(d:D)(want:Bool)(E:Env)(H:Heap):Prop:=
 (d= .tuple []∧wpOps P gs K l (E.put dst (.tuple [])) H)∨
 ∃b,d= .bool b∧(b=want→D1 P (Env.ev ((s,.bool want)::E)) H (opK P gs K l dst ((s,.bool want)::E)) op)∧(b= !want→wpOps P gs K l (Env.put ((s,.bool (!want))::E) dst (.tuple [])) H)
def B1l(P:Program)(gs:List (Option Nat))(K:Env→Heap→Prop)(l:List Oper)(dst:Option Nat)(op:Op)(s:Option Nat)(want:Bool)(E:Env)(H:Heap):Prop:=match s with
 |none=>wpOps P gs K l (E.put dst (.tuple [])) H
 |some s=>A0l P gs K l dst op s (E.get s) want E H
def B5g(P:Program)(f:D)(args:List D)(H:Heap)(K:D→Heap→Prop):Prop:=match f with
 | .fn (.func g) first captured=>ACalls P g (first++args++captured) H K
 |_=>False
def Fin(Q:D→Heap→Prop)(d:D)(H:Heap):Prop:=∃H' d',Shift H d H' d'∧Q d' H'
def B8q(o:Option D)(Q:D→Heap→Prop)(H:Heap):Prop:=∃r,o=some r∧Fin Q r H
theorem Fin.less{Q:D→Heap→Prop}{d:D}{H H':Heap}(hl:H'.Le H)(h:Q d H'):Fin Q d H:=⟨H',d,.less hl d,h⟩
theorem D12:type_of% @Fin.less:=@Fin.less
theorem Fin.same{Q:D→Heap→Prop}{d:D}{H:Heap}(h:Q d H):Fin Q d H:=⟨H,d,.less (D11 H) d,h⟩
theorem D15:type_of% @Fin.same:=@Fin.same
theorem Fin.freeze{Q:D→Heap→Prop}{d d':D}{H:Heap}{b sz:Nat}{es:List (List D)}(hb:H b=some (.vec sz es))(g:Fz b sz es d d')(h:Fin Q d' (H.del b)):Fin Q d H:=
 let ⟨H',e,h1,h2⟩:=h;⟨H',e,(Shift.freeze hb g).trans h1,h2⟩
theorem Fin.then{Q:D→Heap→Prop}{d:D}{H H':Heap}(hl:H'.Le H)(h:Fin Q d H'):Fin Q d H:=
 let ⟨H1,e,h1,h2⟩:=h;⟨H1,e,(Shift.less hl d).trans h1,h2⟩
theorem B2e{Q:D→Heap→Prop}{ds:List D}{H:Heap}{b sz n:Nat}{es:List (List D)}(hb:H b=some (.vec sz es))(hn:n=es.length)(h:Fin Q (.tuple (.sl sz es::ds)) (H.del b)):Fin Q (.tuple (.vec b sz 0 n::ds)) H:=by
 subst hn;refine Fin.freeze hb (.tuple _ _ (by simp) fun i d d' h1 e=>?_) h;cases i with
 |zero=>simp at h1 e;subst h1;subst e;exact .all
 |succ i=>simp at h1 e;rw[h1]at e;cases e;exact .same _
theorem Fin.nilsl{Q:D→Heap→Prop}{H:Heap}(sz:Nat)(ds:List D)(h:Fin Q (.tuple (.sl sz []::ds)) H):Fin Q (.tuple (.nilsl::ds)) H:=
 let ⟨H1,e,h1,h2⟩:=h;⟨H1,e,Shift.trans (fun w v hr hs=>⟨by
  obtain⟨vs,rfl,hl,g⟩:=hr.tuple_inv;refine .tuple _ _ (by simpa using hl) fun i d j=>?_;cases i with
  |zero=>simp at j;subst j;have:=g 0 _ rfl;generalize vs.getD 0 Go.undef=u at this;cases this;exact .sl0 _ _ _
  |succ i=>exact g (i+1) d (by simpa using j),hs,fun _ hn=>hn⟩) h1,h2⟩
theorem A95{P:Program}{t:Nat}{k:IntKind}(h:P.underlying t=some (.int k)):C8 P t= .int:=by unfold C8;rw[h]
section
variable {P:Program} {Z:List (Nat×Rc)} {Q:AX→Env→Heap→Prop} {E:Env} {H:Heap} {K:Env→Heap→Prop} {gs:List (Option Nat)} {l:List Oper} {KD:D→Heap→Prop} {ev:Operand→D} {bl:List Nat}
@[go_sem] theorem C7O:wp P Z .skip Q E H=Q .normal E H:=rfl
def A4u(P:Program)(gs:List (Option Nat))(ops:List Oper)(K:Env→Heap→Prop)(E:Env)(H:Heap):Option Rc→Prop
 |none=>wpOps P gs K ops E H
 |some (.rd sx)=>∃bl,(∀k∈bl,H k≠none)∧A8L P sx bl K ops E H
 |some .par=>∃(cs:Nat→CR) (bs:Nat→Bl),B39 bs 0 ops∧wpP P gs cs bs K 0 ops E H
 |some (.ord perm)=>∃bl:List Nat,wpG P bl K (perm.map (A11 ops)) E H
 |some .rg=>∃bl,(∀k∈bl,H k≠none)∧Z4 P bl gs K ops E H
 |some .wk=>∃E0 H0,A02 E0 H0 E H∧wpOps P gs K ops E0 H0
@[go_sem] theorem C4Y(id:Nat)(l:List Oper)(d:Bool):wp P Z (.region id l.toArray d) Q E H=A4u P (l.map (·.dst)) l (B2q Q) E H (A0k id Z):=by
 show (match A0k id Z with|none=>_|some (.rd sx)=>_|some .par=>_|some (.ord perm)=>_|some .rg=>_|some .wk=>_)=_;unfold A4u;cases A0k id Z with
 |none=>rfl
 |some r=>cases r<;>rfl
@[go_sem] theorem C2Q(id:Nat):A0k id []=none:=rfl
@[go_sem] theorem C1D(id i:Nat)(sx:Rc)(Z:List (Nat×Rc)):A0k id ((i,sx)::Z)=if id=i then some sx else A0k id Z:=rfl
@[go_sem] theorem C2R(d:List (Option Nat))(ops:List Oper):A4u P d ops K E H none=wpOps P d K ops E H:=rfl
theorem F2{d:List (Option Nat)}{ops:List Oper}(cs:Nat→D)(bl:List Nat)(h:wpP P d (fun i=>.c (cs i)) (fun _=>⟨bl,[],[]⟩) K 0 ops E H):A4u P d ops K E H (some .par):=⟨_,_,A2z bl _ _,h⟩
theorem B2r{d:List (Option Nat)}{ops:List Oper}(cs:Nat→CR)(bl:List Nat)(h:wpP P d cs (fun _=>⟨bl,[],[]⟩) K 0 ops E H):A4u P d ops K E H (some .par):=⟨cs,_,A2z bl _ _,h⟩
theorem C2S{d:List (Option Nat)}{ops:List Oper}{perm:List Nat}(bl:List Nat)(h:wpG P bl K (perm.map (A11 ops)) E H):A4u P d ops K E H (some (.ord perm)):=⟨bl,h⟩
def gK(P:Program)(bl:List Nat)(K:Env→Heap→Prop)(l:List (Option Oper))(dst:Option Nat)(E:Env)(H:Heap):D→Heap→Prop:=fun d H'=>(∀k∈bl,H' k=H k)∧wpG P bl K l (E.put dst d) H'
@[go_sem] theorem C8I(bl:List Nat)(K:Env→Heap→Prop)(l:List (Option Oper))(dst:Option Nat)(E:Env)(H H':Heap)(d:D):gK P bl K l dst E H d H'=((∀k∈bl,H' k=H k)∧wpG P bl K l (E.put dst d) H'):=rfl
@[go_sem] theorem C9Y(bl:List Nat):wpG P bl K [] E H=K E H:=rfl
@[go_sem] theorem C8J(bl:List Nat)(l:List (Option Oper))(dst:Option Nat)(t:Nat)(x:Operand)(ty:Nat)(pos:String)(after:Array Edge)(d:Option (Nat×Bool)):
  wpG P bl K (some ⟨dst,.load t x,ty,pos,after,d⟩::l) E H=((∀b∈rdB (E.ev x),b∈bl)∧D1 P E.ev H (gK P bl K l dst E H) (.load t x)):=by
 show ((J1 P (.load t x)= .load→_)∧_)=_;simp only[J1,true_implies,B5b];rfl
def B2s:Op→Bool
 | .load .. =>false
 |_=>true
theorem B5h{op:Op}(h:J1 P op= .load):B2s op=false:=by
 cases op
 case load=>rfl
 case convert s t x=>simp only[J1]at h;split at h<;>cases h
 case call cc=>
  obtain⟨c,d,e⟩:=cc;cases c with
  |builtin b=>
   cases b<;>simp only[J1]at h<;>first|cases h|(split at h<;>cases h)
  |_=>simp[J1]at h
 all_goals (simp[J1]at h)
theorem C8K(bl:List Nat)(l:List (Option Oper))(dst:Option Nat)(op:Op)(ty:Nat)(pos:String)(after:Array Edge)(d:Option (Nat×Bool))(h:B2s op=true):
  wpG P bl K (some ⟨dst,op,ty,pos,after,d⟩::l) E H=D1 P E.ev H (gK P bl K l dst E H) op:=by
 have hc:J1 P op≠ .load:=fun g=>by rw[B5h g]at h;cases h
 show ((J1 P op= .load→_)∧_)=_;simp only[hc,false_implies,true_and];rfl
@[go_sem] theorem C7P(t:Nat)(a x:Operand)(bl:List Nat)(l:List (Option Oper))(dst:Option Nat)(ty:Nat)(pos:String)(after:Array Edge)(d:Option (Nat×Bool)):wpG P bl K (some ⟨dst,.store t a x,ty,pos,after,d⟩::l) E H=D1 P E.ev H (gK P bl K l dst E H) (.store t a x):=C8K _ _ _ _ _ _ _ _ rfl
@[go_sem] theorem C4Z(o:Oper)(l:List Oper):A11 (o::l) 0=some o:=rfl
@[go_sem] theorem C4a(o:Oper)(l:List Oper)(i:Nat):A11 (o::l) (i+1)=A11 l i:=rfl
@[go_sem] theorem C8L(a b:Code):wp P Z (.seq a b) Q E H=wp P Z a (B8p P Z b Q) E H:=by
 show wp P Z a _ E H=wp P Z a _ E H
 congr 1;funext x;cases x<;>rfl
@[go_sem] theorem C7Q(c:Operand)(x y:Code):wp P Z (.cond c x y) Q E H=A94 P Z c (E.ev c) x y Q E H:=rfl
@[go_sem] theorem C5e(id:Nat)(c:Code):wp P Z (.block id c) Q E H=wp P Z c (A8P id Q) E H:=by
 show wp P Z c _ E H=wp P Z c _ E H
 congr 1;funext x;cases x<;>rfl
@[go_sem] theorem C7R(c:Code):wp P Z (.loop c) Q E H=B5f P Z c Q E H:=by
 show B2p _ E H=B2p _ E H
 congr 1;funext K;congr 1;funext x;cases x<;>rfl
@[go_sem] theorem C7S(id:Nat):wp P Z (.exit id) Q E H=Q (.exit id) E H:=rfl
@[go_sem] theorem C8M:wp P Z .ret Q E H=Q .ret E H:=rfl
@[go_sem] theorem C5f(c:Code):wp P Z (.scope c) Q E H=wp P Z c Q E H:=rfl
@[go_sem] theorem C5g(l:Nat):wp P Z (.label l) Q E H=Q .normal E H:=rfl
@[go_sem] theorem C1E(b:Code):B8p P Z b Q .normal E H=wp P Z b Q E H:=rfl
@[go_sem] theorem C4b(b:Code)(i:Nat):B8p P Z b Q (.exit i) E H=Q (.exit i) E H:=rfl
@[go_sem] theorem C5h(b:Code):B8p P Z b Q .ret E H=Q .ret E H:=rfl
@[go_sem] theorem B8N(i:Nat):A8P i Q .normal E H=Q .normal E H:=rfl
@[go_sem] theorem C1F(i j:Nat):A8P i Q (.exit j) E H=if j=i then Q .normal E H else Q (.exit j) E H:=rfl
@[go_sem] theorem C2T(i:Nat):A8P i Q .ret E H=Q .ret E H:=rfl
@[go_sem] theorem B8r:A55 Q K .normal E H=K E H:=rfl
@[go_sem] theorem C2U(j:Nat):A55 Q K (.exit j) E H=Q (.exit j) E H:=rfl
@[go_sem] theorem C4c:A55 Q K .ret E H=Q .ret E H:=rfl
@[go_sem] theorem C1G:B2q Q E H=Q .normal E H:=rfl
theorem A22(c:Operand)(b:Bool)(x y:Code):A94 P Z c (.bool b) x y Q E H=((b=true→wp P Z x Q (E.fix c true) H)∧(b=false→wp P Z y Q (E.fix c false) H)):=by
 unfold A94;simp only[D.bool.injEq,exists_eq_left']
attribute [go_sem low] A22
@[go_sem high] theorem C2V(c:Operand)(x y:Code):A94 P Z c (.bool true) x y Q E H=wp P Z x Q (E.fix c true) H:=by rw[A22];simp
@[go_sem high] theorem C1H(c:Operand)(x y:Code):A94 P Z c (.bool false) x y Q E H=wp P Z y Q (E.fix c false) H:=by rw[A22];simp
@[go_sem] theorem C7T(t:Nat)(b:Bool):Env.fix E (.tmp t) b=(t,.bool b)::E:=rfl
@[go_sem] theorem C7U:wpOps P gs K [] E H=K E H:=rfl
@[go_sem] theorem C5i(dst:Option Nat)(op:Op)(ty:Nat)(pos:String)(after:Array Edge):wpOps P gs K (⟨dst,op,ty,pos,after,none⟩::l) E H=D1 P (Env.ev E) H (opK P gs K l dst E) op:=rfl
@[go_sem] theorem C4d(dst:Option Nat)(op:Op)(ty:Nat)(pos:String)(after:Array Edge)(j:Nat)(d:Bool):
  wpOps P gs K (⟨dst,op,ty,pos,after,some (j,d)⟩::l) E H=B1l P gs K l dst op (I2 gs j) d E H:=by
 rw[wpOps];simp only[];unfold A1y B1l;cases I2 gs j<;>rfl
@[go_sem] theorem B5i(g:Option Nat)(d:List (Option Nat)):I2 (g::d) 0=g:=rfl
@[go_sem] theorem B5j(g:Option Nat)(d:List (Option Nat))(j:Nat):I2 (g::d) (j+1)=I2 d j:=by simp[I2]
@[go_sem] theorem C1I(dst:Option Nat)(op:Op)(s:Nat)(d:Bool):B1l P gs K l dst op (some s) d E H=A0l P gs K l dst op s (E.get s) d E H:=rfl
theorem j6(dst:Option Nat)(op:Op)(s:Nat)(b d:Bool):A0l P gs K l dst op s (.bool b) d E H=
  ((b=d→D1 P (Env.ev ((s,.bool d)::E)) H (opK P gs K l dst ((s,.bool d)::E)) op)∧(b= !d→wpOps P gs K l (Env.put ((s,.bool (!d))::E) dst (.tuple [])) H)):=by
 unfold A0l;simp only[D.bool.injEq,exists_eq_left',reduceCtorEq,false_and,false_or]
attribute [go_sem low] j6
@[go_sem high] theorem C1J(dst:Option Nat)(op:Op)(s:Nat)(d:Bool):A0l P gs K l dst op s (.tuple []) d E H=wpOps P gs K l (E.put dst (.tuple [])) H:=by
 unfold A0l;simp
@[go_sem high] theorem C4e(dst:Option Nat)(op:Op)(s:Nat):A0l P gs K l dst op s (.bool true) true E H=D1 P (Env.ev ((s,.bool true)::E)) H (opK P gs K l dst ((s,.bool true)::E)) op:=by rw[j6];simp
@[go_sem high] theorem C4f(dst:Option Nat)(op:Op)(s:Nat):A0l P gs K l dst op s (.bool false) false E H=D1 P (Env.ev ((s,.bool false)::E)) H (opK P gs K l dst ((s,.bool false)::E)) op:=by rw[j6];simp
@[go_sem high] theorem C4g(dst:Option Nat)(op:Op)(s:Nat):A0l P gs K l dst op s (.bool true) false E H=wpOps P gs K l (Env.put ((s,.bool true)::E) dst (.tuple [])) H:=by rw[j6];simp
@[go_sem high] theorem C4h(dst:Option Nat)(op:Op)(s:Nat):A0l P gs K l dst op s (.bool false) true E H=wpOps P gs K l (Env.put ((s,.bool false)::E) dst (.tuple [])) H:=by rw[j6];simp
@[go_sem] theorem C7V(dst:Option Nat)(d:D):opK P gs K l dst E d H=wpOps P gs K l (Env.put E dst d) H:=rfl
def C5j(P:Program)(bl:List Nat)(gs:List (Option Nat))(K:Env→Heap→Prop)(l:List Oper)(dst:Option Nat)(E:Env):D→Heap→Prop:=fun d H=>Z4 P bl gs K l (E.put dst d) H
def B5k(P:Program)(bl:List Nat)(gs:List (Option Nat))(K:Env→Heap→Prop)(l:List Oper)(dst:Option Nat)(op:Op)(s:Nat)(d:D)(want:Bool)(E:Env)(H:Heap):Prop:=
 (d= .tuple []∧Z4 P bl gs K l (E.put dst (.tuple [])) H)∨
 ∃b,d= .bool b∧(b=want→A5p P bl (Env.ev ((s,.bool want)::E)) H (C5j P bl gs K l dst ((s,.bool want)::E)) op)∧(b= !want→Z4 P bl gs K l (Env.put ((s,.bool (!want))::E) dst (.tuple [])) H)
theorem A96(dst:Option Nat)(op:Op)(s:Nat)(b d:Bool):B5k P bl gs K l dst op s (.bool b) d E H=
  ((b=d→A5p P bl (Env.ev ((s,.bool d)::E)) H (C5j P bl gs K l dst ((s,.bool d)::E)) op)∧(b= !d→Z4 P bl gs K l (Env.put ((s,.bool (!d))::E) dst (.tuple [])) H)):=by
 unfold B5k;apply propext;constructor
 ·rintro(⟨h,_⟩|⟨e,h,h1⟩)
  ·cases h
  ·cases h;exact h1
 ·exact fun h=>.inr ⟨b,rfl,h⟩
attribute [go_sem low] A96
def roH(H:Heap):Heap:=fun k=>match H k with
 |some (.ro cs)=>some (.ro cs)
 |_=>none
theorem A8Q{H:Heap}{k:Nat}{cs:List D}(h:H k=some (.ro cs)):roH H k=some (.ro cs):=by unfold roH;rw[h]
theorem A8R(H:Heap):(roH H).Le H:=fun k o h=>by
 unfold roH at h;split at h
 ·rename_i cs e;cases h;exact e
 ·cases h
theorem A3Z(H:Heap)(k:Nat):(roH H).held k=false:=by
 cases h:roH H k with
 |none=>exact I1 h
 |some o=>
  have d:=h;unfold roH at d;split at d
  ·cases d;rw[J5 h];rfl
  ·cases d
theorem C2W(H:Heap):H.sub (roH H)=H:=by
 funext k;unfold Heap.sub;rw[A3Z];simp
def C8N(H:Heap)(b:Nat):Heap:=fun k=>if k=b then H k else roH H k
theorem B8s(H:Heap)(b:Nat):C8N H b b=H b:=if_pos rfl
@[go_sem] theorem A4M(d:D):S2 (some d) KD H=KD d H:=by simp[S2]
@[go_sem] theorem C5k(c:Prop) [Decidable c] (a:Option D):S2 (if c then a else none) KD H=(c∧S2 a KD H):=by
 by_cases h:c<;>simp[h,S2]
@[go_sem] theorem C4i(H':Heap):A93 (some H') KD=KD .undef H':=by simp[A93]
@[go_sem] theorem C5l(c:Prop) [Decidable c] (a:Option Heap):A93 (if c then a else none) KD=(c∧A93 a KD):=by
 by_cases h:c<;>simp[h,A93]
def tt:D→Heap→Prop:=fun _ _=>True
variable {sx:Bool} {bl:List Nat}
@[go_sem] theorem C7W(i j:Nat)(d:D)(E:Env):Env.get ((i,d)::E) j=if i=j then d else Env.get E j:=rfl
@[go_sem] theorem C7X(i:Nat)(d:D):Env.put E (some i) d=(i,d)::E:=rfl
@[go_sem] theorem B8t(d:D):Env.put E none d=E:=rfl
@[go_sem] theorem C8O(t:Nat):Env.ev E (.tmp t)=Env.get E t:=rfl
@[go_sem] theorem C8P(k:IntKind)(n:Int):Env.ev E (.const (.int k n))= .int k n:=rfl
@[go_sem] theorem C7Y(b:Bool):Env.ev E (.const (.bool b))= .bool b:=rfl
@[go_sem] theorem C8Q(s:ByteArray):Env.ev E (.const (.string s))= .str s:=rfl
@[go_sem] theorem C5m:Env.ev E (.const (.slice none 0 0))= .nilsl:=rfl
@[go_sem] theorem C4j:Env.ev E (.const (.map none))= .nilmap:=rfl
@[go_sem] theorem C5n:Env.ev E (.const .nilIface)= .nilif:=rfl
@[go_sem] theorem C7Z(f:Nat):Env.ev E (.func f)= .fn (.func f) [] []:=rfl
@[go_sem] theorem C8R(x:Operand):D1 P ev H KD (.move x)=KD (ev x) H:=A4M _
@[go_sem] theorem C5o(x:Operand):D1 P ev H KD (.assign x)=KD (ev x) H:=A4M _
def B2t:D→D→D→Option D
 | .bool t,a,b=>some (if t then a else b)
 |_,_,_=>none
@[go_sem high] theorem C4k(a b:D):B2t (.bool true) a b=some a:=rfl
@[go_sem high] theorem C2X(a b:D):B2t (.bool false) a b=some b:=rfl
@[go_sem] theorem C8S(c a b:Operand):D1 P ev H KD (.pick c a b)=S2 (B2t (ev c) (ev a) (ev b)) KD H:=by
 show S2 _ KD H=_;simp only[L0,B2t]
 congr 1
 cases ev c<;>rfl
def A8S:D→Option D
 | .box b off=>some (.box b off)
 | .el b sz i off=>some (.el b sz i off)
 | .ro cs=>some (.ro cs)
 | .fn (.func f) a b=>some (.fn (.func f) a b)
 |_=>none
@[go_sem] theorem C4l(b off:Nat):A8S (.box b off)=some (.box b off):=rfl
@[go_sem] theorem C5p(b sz i off:Nat):A8S (.el b sz i off)=some (.el b sz i off):=rfl
@[go_sem] theorem C7a(x:Operand):D1 P ev H KD (.nilCheck x)=S2 (A8S (ev x)) KD H:=by
 show S2 _ KD H=_;simp only[L0,A8S];generalize ev x=d;cases d<;>rfl
@[go_sem] theorem C9Z(op:BinOp)(t:Nat)(x y:Operand)(d:Nat):D1 P ev H KD (.binOp op t x y d)=S2 (A1s P op t (K8 x||K8 y) (ev x) (ev y)) KD H:=rfl
@[go_sem] theorem D0K(op:UnOp)(t:Nat)(x:Operand):D1 P ev H KD (.unOp op t x)=S2 (unD op (ev x)) KD H:=rfl
@[go_sem] theorem C7b(t:Nat)(x:Operand)(f:Nat):D1 P ev H KD (.fieldAddr t x f)=S2 (Z0 P t (ev x) f) KD H:=rfl
@[go_sem] theorem C7c(t:Nat)(x i:Operand):D1 P ev H KD (.indexAddr t x i)=S2 (Q4 P t (ev x) (ev i)) KD H:=rfl
@[go_sem] theorem C7d(t:Nat)(x i:Operand):D1 P ev H KD (.index t x i)=S2 (A5k P t (ev x) (ev i)) KD H:=rfl
@[go_sem] theorem C7e(t:Nat)(x:Operand)(lo d:Option Operand):D1 P ev H KD (.slice t x lo d none)=S2 (U3 P t (ev x) (lo.map ev) (d.map ev)) KD H:=rfl
def A56:D→Nat→Option D
 | .tuple ds,i=>ds[i]?
 |_,_=>none
@[go_sem] theorem B8O(ds:List D)(i:Nat):A56 (.tuple ds) i=ds[i]? :=rfl
@[go_sem] theorem C4m(x:Operand)(i:Nat):D1 P ev H KD (.extract x i)=S2 (A56 (ev x) i) KD H:=by
 show S2 _ KD H=_;simp only[L0,A56]
 congr 1
 cases ev x<;>rfl
@[go_sem] theorem C8T(t:Nat)(x:Operand):D1 P ev H KD (.load t x)=S2 (y9 P t (ev x) H) KD H:=rfl
@[go_sem] theorem C7f(t:Nat)(a x:Operand):D1 P ev H KD (.store t a x)=A93 (Z2 P t (ev a) (ev x) H) KD:=rfl
def B1m(z:Option (List D))(Z:Option TypeId)(H:Heap)(KD:D→Heap→Prop):Prop:=∃c,z=some c∧∀b,H b=none→KD (.box b 0) (H.set b (.box c Z))
@[go_sem] theorem C7g(t:Nat):D1 P ev H KD (.alloc t)=B1m (G1 P t) (A1o P t) H KD:=rfl
@[go_sem] theorem C1K(c:List D)(Z:Option TypeId):B1m (some c) Z H KD= ∀b,H b=none→KD (.box b 0) (H.set b (.box c Z)):=by simp[B1m]
@[go_sem] theorem C9a(t:Nat)(x:Operand):D1 P ev H KD (.box t x)=((ev x).cells.all D.one=true∧∀b,H b=none→KD (.box b 0) (H.set b (.box (ev x).cells))):=rfl
@[go_sem] theorem C8U(f:Operand)(args:List Operand)(d:Array Nat):D1 P ev H KD (.call ⟨.value f,args.toArray,d⟩)=B5g P (ev f) (args.map ev) H KD:=by
 show (match ev f with| .fn (.func g) first captured=>ACalls P g (first++args.toArray.toList.map ev++captured) H KD|_=>False)=_;unfold B5g;rfl
@[go_sem] theorem C5q(g:Nat)(fs d cs:List D):B5g P (.fn (.func g) fs cs) d H KD=ACalls P g (fs++d++cs) H KD:=rfl
def C5r:Option Obj→Option (List (D×D))
 |some (.map kvs)=>some kvs
 |_=>none
@[go_sem] theorem C5s(kvs:List (D×D)):C5r (some (.map kvs))=some kvs:=rfl
@[go_sem] theorem C7h(b:Nat):Y6 H (.map b)=C5r (H b):=by
 simp only[Y6];generalize H b=o;cases o with
 |none=>rfl
 |some o=>cases o<;>rfl
@[go_sem] theorem C8V(kvs:List (D×D)):Y6 H (.fm kvs)=some kvs:=rfl
def B5l(o:Option (List (D×D)))(KD:List (D×D)→Prop):Prop:=∃kvs,o=some kvs∧KD kvs
@[go_sem] theorem C4n(kvs:List (D×D))(K:List (D×D)→Prop):B5l (some kvs) K=K kvs:=by simp[B5l]
def B5m(bs:R3)(P:Program)(t:Nat)(d:D)(H:Heap)(KD:D→Heap→Prop):Prop:=match bs with
 | .map=>B5l (Y6 H d) fun kvs=>KD (.int .i64 kvs.length) H
 |_=>S2 (A5j P t d) KD H
@[go_sem] theorem C5t(t:Nat)(d:D):B5m .map P t d H KD=B5l (Y6 H d) fun kvs=>KD (.int .i64 kvs.length) H:=rfl
@[go_sem] theorem C2Y(t:Nat)(d:D):B5m .slice P t d H KD=S2 (A5j P t d) KD H:=rfl
@[go_sem] theorem C5u(t:Nat)(d:D):B5m .str P t d H KD=S2 (A5j P t d) KD H:=rfl
@[go_sem] theorem C9b(x:Operand)(t:Nat):D1 P ev H KD (.call ⟨.builtin .len,#[x],#[t]⟩)=B5m (C8 P t) P t (ev x) H KD:=by
 unfold B5m C8;cases d:P.underlying t with
 |none=>simp[D1,J1,d,S2,L0]
 |some u=>cases u<;>simp[D1,J1,d,S2,B5l,L0]
def B8u(bs:R3)(d:D):Option D:=match d with
 | .nilsl=>if bs= .slice then some (.int .i64 0)else none
 |_=>none
@[go_sem] theorem C5v:B8u .slice .nilsl=some (.int .i64 0):=rfl
def B2u(z:Option D)(kvs:Option (List (D×D)))(kk:KK)(k:D)(ok:Bool):Option D:=match z,kvs with
 |some z,some kvs=>(P5 kk k kvs 0).map (A2w ok z)
 |_,_=>none
@[go_sem] theorem C2Z(z k:D)(kvs:List (D×D))(d:KK)(ok:Bool):B2u (some z) (some kvs) d k ok=(P5 d k kvs 0).map (A2w ok z):=rfl
def B5n(T:Option (TypeId×TypeId×KK))(P:Program)(m k:D)(ok:Bool)(H:Heap):Option D:=match T with
 |some (_,et,kk)=>if S8 kk k=true then B2u (A5n P et) (Y6 H m) kk k ok else none
 |none=>none
@[go_sem] theorem C2a(g e:TypeId)(d:KK)(m k:D)(ok:Bool):B5n (some (g,e,d)) P m k ok H=if S8 d k=true then B2u (A5n P e) (Y6 H m) d k ok else none:=rfl
@[go_sem] theorem C5w(t:Nat)(m k:Operand)(ok:Bool):D1 P ev H KD (.lookup t m k ok)=S2 (B5n (A3O P t) P (ev m) (ev k) ok H) KD H:=by
 show S2 (A1O P t (ev m) (ev k) ok H) KD H=_;unfold A1O B5n B2u;cases A3O P t with
 |none=>rfl
 |some T=>
  obtain⟨e,d,g⟩:=T;simp only[D04];cases A5n P d<;>cases Y6 H (ev m)<;>simp
@[go_sem] theorem C5x(z d:D)(i:Nat):A2w true z (some (i,d))= .tuple [d,.bool true]:=rfl
@[go_sem] theorem C5y(z:D):A2w true z none= .tuple [z,.bool false]:=rfl
@[go_sem] theorem C4o(b:R3)(s:ByteArray):S8 (.one b) (.str s)=true:=rfl
def B2v(o:Option Obj)(b:Nat)(kk:KK)(k x:D)(H:Heap):Option Heap:=match o with
 |some (.map kvs)=>(P5 kk k kvs 0).map fun r=>H.set b (.map (A5o kvs k x r))
 |_=>none
@[go_sem] theorem C4p(kvs:List (D×D))(b:Nat)(d:KK)(k x:D):B2v (some (.map kvs)) b d k x H=(P5 d k kvs 0).map fun r=>H.set b (.map (A5o kvs k x r)):=rfl
def B5o(T:Option (TypeId×TypeId×KK))(m k x:D)(H:Heap):Option Heap:=match T,m with
 |some (_,_,kk),.map b=>if S8 kk k=true then B2v (H b) b kk k x H else none
 |_,_=>none
@[go_sem] theorem C2b(e g:TypeId)(d:KK)(b:Nat)(k x:D):B5o (some (e,g,d)) (.map b) k x H=if S8 d k=true then B2v (H b) b d k x H else none:=rfl
@[go_sem] theorem C1L(t:Nat)(m k x:Operand):D1 P ev H KD (.mapUpdate t m k x)=A93 (B5o (A3O P t) (ev m) (ev k) (ev x) H) KD:=by
 show A93 (A3P P t (ev m) (ev k) (ev x) H) KD=_;unfold A3P B5o B2v;cases A3O P t with
 |none=>rfl
 |some T=>
  obtain⟨d,e,g⟩:=T;simp only[D04];cases ev m<;>try(simp;done)
  rename_i b;simp only;cases H b with
  |none=>simp
  |some o=>cases o<;>simp
@[go_sem] theorem C4q(t:Nat):D1 P ev H KD (.makeMap t none)= ∀b,H b=none→KD (.map b) (H.set b (.map [])):=rfl
@[go_sem] theorem C9c(x:Operand)(t:Nat):D1 P ev H KD (.call ⟨.builtin .cap,#[x],#[t]⟩)=S2 (B8u (C8 P t) (ev x)) KD H:=by
 have e:L0 P ev (.call ⟨.builtin .cap,#[x],#[t]⟩)=B8u (C8 P t) (ev x):=by
  simp only[L0,List.getElem?_toArray,List.getElem?_cons_zero,Option.map_some];unfold B8u;cases ev x<;>rfl
 show (∃d,L0 P ev (.call ⟨.builtin .cap,#[x],#[t]⟩)=some d∧KD d H)=_;rw[e];rfl
@[go_sem] theorem C9d(x y:Operand)(d:Array Nat):D1 P ev H KD (.call ⟨.builtin .max,#[x,y],d⟩)=S2 (A7C (ev x) (ev y)) KD H:=by
 show S2 (A7D A7C [ev x,ev y]) KD H=_;simp[A7D]
@[go_sem] theorem C5z(s x:Operand)(t d:Nat):D1 P ev H KD (.call ⟨.builtin .append,#[s,x],#[t,d]⟩)=A1N P ev H KD t d s x:=rfl
def C2c(P:Program)(t:Nat)(d:D):Option D:=if C8 P t= .iface∨(P.underlying t).isNone then none else some (.iface t d)
@[go_sem] theorem C4r(t:Nat)(x:Operand):D1 P ev H KD (.makeInterface t x)=S2 (C2c P t (ev x)) KD H:=rfl
@[go_sem] theorem C8W(fn:Fn)(fs cs:List Operand):D1 P ev H KD (.makeFunc fn fs.toArray cs.toArray)=KD (.fn fn (fs.map ev) (cs.map ev)) H:=by
 show S2 _ KD H=_;simp[L0,A4M]
def A8T(P:Program)(t:Nat)(ps:List (Nat×D)):Option D:=match C8 P t with
  | .struct=>(G1 P t).bind fun z=>(L4 P t).bind fun fs=>(n8 (fun i=>(fs[i]?).map fun f=>(f.1,f.2.2)) z ps).map .agg
  | .other=>(G1 P t).bind fun z=>(B1T P t).bind fun s=>(n8 (fun i=>some (i*s.2,s.2)) z ps).map .agg
  |_=>none
def B5p(z:Option (List D))(s:Option (Nat×Nat))(ps:List (Nat×D)):Option D:=match z,s with
 |some z,some s=>(n8 (fun i=>some (i*s.2,s.2)) z ps).map .agg
 |_,_=>none
def B1n(b:R3)(z:Option (List D))(fs:Option (List (Nat×Bool×Nat)))(s:Option (Nat×Nat))(ps:List (Nat×D)):Option D:=match b with
 | .struct=>match z,fs with
  |some z,some fs=>(n8 (fun i=>(fs[i]?).map fun f=>(f.1,f.2.2)) z ps).map .agg
  |_,_=>none
 | .other=>B5p z s ps
 |_=>none
@[go_sem] theorem C4s(t:Nat)(ps:List (Nat×D)):A8T P t ps=B1n (C8 P t) (G1 P t) (L4 P t) (B1T P t) ps:=by
 unfold A8T B1n B5p;cases C8 P t<;>try rfl
 ·cases G1 P t<;>try rfl
  cases L4 P t<;>rfl
 ·cases G1 P t<;>try rfl
  cases B1T P t<;>rfl
@[go_sem] theorem C1M(z:List D)(fs:List (Nat×Bool×Nat))(s:Option (Nat×Nat))(ps:List (Nat×D)):B1n .struct (some z) (some fs) s ps=(n8 (fun i=>(fs[i]?).map fun f=>(f.1,f.2.2)) z ps).map .agg:=rfl
@[go_sem] theorem C50(d:Nat→Option (Nat×Nat))(cs:List D):n8 d cs []=some cs:=rfl
def B5q(o:Option (Nat×Nat))(pl:Nat→Option (Nat×Nat))(cs:List D)(d:D)(ps:List (Nat×D)):Option (List D):=match o with
 |none=>none
 |some (off,size)=>if d.cells.length=size∧off+size≤cs.length∧d.cells.all D.one=true then n8 pl (P4 cs off d.cells) ps else none
@[go_sem] theorem C4t(e:Nat→Option (Nat×Nat))(cs:List D)(i:Nat)(d:D)(ps:List (Nat×D)):n8 e cs ((i,d)::ps)=B5q (e i) e cs d ps:=by
 rw[n8];unfold B5q;cases e i<;>rfl
@[go_sem] theorem C2d(off size:Nat)(e:Nat→Option (Nat×Nat))(cs:List D)(d:D)(ps:List (Nat×D)):B5q (some (off,size)) e cs d ps=if d.cells.length=size∧off+size≤cs.length∧d.cells.all D.one=true then n8 e (P4 cs off d.cells) ps else none:=rfl
@[go_sem] theorem C7i(t:Nat)(ps:List (Nat×Operand)):D1 P ev H KD (.build t ps.toArray)=S2 (A8T P t (ps.map fun p=>(p.1,ev p.2))) KD H:=by
 show S2 _ KD H=_;simp only[L0,A8T];cases C8 P t<;>rfl
variable {t:Nat} {c:Bool} {k:IntKind} {a b:Int}
@[go_sem] theorem C9e:K9 P .add t c (.int k a) (.int k b)=some (.int k (k.wrap (a+b))):=by simp[K9,A3N]
@[go_sem] theorem C9f:K9 P .sub t c (.int k a) (.int k b)=some (.int k (k.wrap (a-b))):=by simp[K9,A3N]
@[go_sem] theorem C9g:K9 P .mul t c (.int k a) (.int k b)=some (.int k (k.wrap (a*b))):=by simp[K9,A3N]
@[go_sem] theorem C9h:K9 P .quo t c (.int k a) (.int k b)=if b=0 then none else some (.int k (k.wrap (a.tdiv b))):=by simp[K9,A3N]
@[go_sem] theorem C9i:K9 P .rem t c (.int k a) (.int k b)=if b=0 then none else some (.int k (a.tmod b)):=by simp[K9,A3N]
@[go_sem] theorem C9j:K9 P .eql t c (.int k a) (.int k b)=some (.bool (decide (a=b))):=by simp[K9,A3N];rfl
@[go_sem] theorem C9k:K9 P .neq t c (.int k a) (.int k b)=some (.bool (!decide (a=b))):=by simp[K9,A3N];rfl
@[go_sem] theorem C9l:K9 P .lss t c (.int k a) (.int k b)=some (.bool (decide (a<b))):=by simp[K9,A3N]
@[go_sem] theorem C9m:K9 P .leq t c (.int k a) (.int k b)=some (.bool (decide (a≤b))):=by simp[K9,A3N]
@[go_sem] theorem C9n:K9 P .gtr t c (.int k a) (.int k b)=some (.bool (decide (b<a))):=by simp[K9,A3N]
@[go_sem] theorem C9o:K9 P .geq t c (.int k a) (.int k b)=some (.bool (decide (b≤a))):=by simp[K9,A3N]
@[go_sem] theorem C8X(x y:ByteArray):K9 P .add t c (.str x) (.str y)=if x.size+y.size≤9223372036854775807 then some (.str (x++y))else none:=rfl
@[go_sem] theorem C8Y(x y:ByteArray):K9 P .eql t c (.str x) (.str y)=some (.bool (decide (B x=B y))):=by
 show some (D.bool (x.data.toList==y.data.toList))=_;unfold B;generalize x.data.toList=a;generalize y.data.toList=b;by_cases h:a=b<;>simp[h]
@[go_sem] theorem C8Z(x y:ByteArray):K9 P .neq t c (.str x) (.str y)=some (.bool (!decide (B x=B y))):=by
 show some (D.bool (!(x.data.toList==y.data.toList)))=_;unfold B;generalize x.data.toList=a;generalize y.data.toList=b;by_cases h:a=b<;>simp[h]
@[go_sem] theorem C8a(x y:ByteArray):K9 P .lss t c (.str x) (.str y)=some (.bool (Op.bytesLess x.data.toList y.data.toList)):=rfl
@[go_sem] theorem C8b(x y:Bool):K9 P .eql t c (.bool x) (.bool y)=if C8 P t= .bool then some (.bool (x==y))else none:=rfl
@[go_sem] theorem C8c(x y:Bool):K9 P .neq t c (.bool x) (.bool y)=if C8 P t= .bool then some (.bool (!(x==y)))else none:=rfl
@[go_sem] theorem C8d(x:Bool):unD .not (.bool x)=some (.bool (!x)):=rfl
@[go_sem] theorem C8e:unD .neg (.int k a)=some (.int k (k.wrap (0-a))):=rfl
@[go_sem] theorem C51(d:IntKind):B2f (.int k a) (.int d b)=some (.int k (if b<a then b else a)):=rfl
@[go_sem] theorem C52(d:IntKind):A7C (.int k a) (.int d b)=some (.int k (if a<b then b else a)):=rfl
@[go_sem] theorem C8f(op:BinOp)(y:D):A1s P op t c (.int k a) y=K9 P op t c (.int k a) y:=by cases op<;>rfl
@[go_sem] theorem C8g(op:BinOp)(x:ByteArray)(y:D):A1s P op t c (.str x) y=K9 P op t c (.str x) y:=by cases op<;>rfl
@[go_sem] theorem C7j(op:BinOp)(x:Bool)(y:D):A1s P op t c (.bool x) y=K9 P op t c (.bool x) y:=by cases op<;>rfl
@[go_sem] theorem C53(op:BinOp)(y:D):A1s P op t c .nilif y=K9 P op t c .nilif y:=by cases op<;>rfl
@[go_sem] theorem C9p(op:BinOp)(n:Nat)(es:List (List D))(y:D):A1s P op t c (.sl n es) y=K9 P op t c (.sl n es) y:=by cases op<;>rfl
@[go_sem] theorem C54(op:BinOp)(u:Nat)(d y:D):A1s P op t c (.iface u d) y=K9 P op t c (.iface u d) y:=by cases op<;>rfl
def C2e(l:Option (List (Nat×R3)))(xs ys:List D):Option Bool:=l.bind fun fs=>W0 fs xs ys
theorem A57{sz:Nat}{es:List (List D)}(he:es≠[])(hb:C8 P t= .slice):K9 P .eql t true (.sl sz es) .nilsl=some (.bool false):=by
 cases es with
 |nil=>exact absurd rfl he
 |cons e es=>simp[K9,A5i,A9W,hb]
@[go_sem] theorem C2f(xs d:List D):A1s P .neq t c (.agg xs) (.agg d)=(C2e (A1L P t) xs d).map fun b=>.bool (!b):=by
 show (A1L P t).bind _=_;unfold C2e;cases A1L P t<;>rfl
@[go_sem] theorem C4u(fs:List (Nat×R3))(xs d:List D):C2e (some fs) xs d=W0 fs xs d:=rfl
@[go_sem] theorem C4v(xs d:List D):W0 [] xs d=some true:=rfl
def B5r(x y:Option D)(bs:R3)(r:Option Bool):Option Bool:=match x,y with
 |some x,some y=>(V9 bs x y).bind fun c=>r.map (c&& ·)
 |_,_=>none
@[go_sem] theorem C2g(o:Nat)(bs:R3)(fs:List (Nat×R3))(xs d:List D):W0 ((o,bs)::fs) xs d=B5r xs[o]? d[o]? bs (W0 fs xs d):=rfl
@[go_sem] theorem C55(k:IntKind)(a b:Int)(r:Option Bool):B5r (some (.int k a)) (some (.int k b)) .int r=r.map (decide (a=b)&& ·):=by
 simp[B5r,V9];rfl
@[go_sem] theorem C56(a b:ByteArray)(r:Option Bool):B5r (some (.str a)) (some (.str b)) .str r=r.map (decide (B a=B b)&& ·):=by
 have:(a.data.toList==b.data.toList)=decide (B a=B b):=by
  unfold B;generalize a.data.toList=x;generalize b.data.toList=y;by_cases h:x=y<;>simp[h]
 simp only[B5r,V9,this,D04]
def elB(o:Option Obj)(sz lo n:Nat):Option (List (List D)):=match o with
 |some (.vec sz' es)=>if sz=sz'∧lo+n≤es.length then some ((es.drop lo).take n)else none
 |_=>none
@[go_sem] theorem C7k(sz' sz lo n:Nat)(es:List (List D)):elB (some (.vec sz' es)) sz lo n=if sz=sz'∧lo+n≤es.length then some ((es.drop lo).take n)else none:=rfl
@[go_sem] theorem C57(sz sz':Nat)(es:List (List D)):M0 H sz (.sl sz' es)=if sz=sz' then some es else none:=rfl
@[go_sem] theorem C4w(sz b sz' lo n:Nat):M0 H sz (.vec b sz' lo n)=if sz=sz' then elB (H b) sz lo n else none:=by
 simp only[M0];generalize H b=o;cases o with
 |none=>rfl
 |some o=>cases o<;>rfl
@[go_sem] theorem C58(es:List (List D)):A39 es []=some es:=rfl
@[go_sem] theorem C4x(es:List (List D))(i:Nat)(d:D)(ps:List (Nat×D)):A39 es ((i,d)::ps)=if i<es.length∧d.cells.length=(es.getD i []).length∧d.cells.all D.one=true then A39 (es.set i d.cells) ps else none:=rfl
def bsC(o:Option (List (List D)))(sz len:Nat)(H:Heap)(KD:D→Heap→Prop):Prop:=match o with
 |some es=>∀b,H b=none→KD (.vec b sz 0 len) (H.set b (.vec sz es))
 |none=>False
@[go_sem] theorem C59(es:List (List D))(sz len:Nat):bsC (some es) sz len H KD= ∀b,H b=none→KD (.vec b sz 0 len) (H.set b (.vec sz es)):=rfl
def bsB(z:Option (List D))(sz len:Nat)(ps:List (Nat×D))(H:Heap)(KD:D→Heap→Prop):Prop:=match z with
 |some z=>z.length=sz∧bsC (A39 (List.replicate len z) ps) sz len H KD
 |none=>False
@[go_sem] theorem C6A(z:List D)(sz len:Nat)(ps:List (Nat×D)):bsB (some z) sz len ps H KD=(z.length=sz∧bsC (A39 (List.replicate len z) ps) sz len H KD):=rfl
def bsA(P:Program)(et:Option (Nat×Nat×Nat))(len:Nat)(ps:List (Nat×D))(H:Heap)(KD:D→Heap→Prop):Prop:=match et with
 |some (e,sz,_)=>0<sz∧len*sz≤16777216∧bsB (G1 P e) sz len ps H KD
 |none=>False
@[go_sem] theorem C6B(e sz d len:Nat)(ps:List (Nat×D)):bsA P (some (e,sz,d)) len ps H KD=(0<sz∧len*sz≤16777216∧bsB (G1 P e) sz len ps H KD):=rfl
@[go_sem] theorem B8v(t len:Nat)(ps:List (Nat×Operand)):D1 P ev H KD (.buildSlice t len ps.toArray)=bsA P (G8 P t) len (ps.map fun p=>(p.1,ev p.2)) H KD:=by
 show (∃e sz d z es,G8 P t=some (e,sz,d)∧0<sz∧len*sz≤16777216∧G1 P e=some z∧z.length=sz∧A39 (List.replicate len z) (ps.map fun p=>(p.1,ev p.2))=some es∧_)=_;apply propext;constructor
 ·rintro⟨e,sz,d,z,es,h1,g,i,m,h5,o,q⟩;rw[h1];refine⟨g,i,?_⟩;rw[m];refine⟨h5,?_⟩;rw[o];exact q
 ·intro h;cases he:G8 P t with
  |none=>rw[he]at h;exact h.elim
  |some e=>
   obtain⟨e,sz,d⟩:=e;rw[he]at h;obtain⟨g,i,h⟩:=h;cases j:G1 P e with
   |none=>rw[j]at h;exact h.elim
   |some z=>
    rw[j]at h;obtain⟨h5,h⟩:=h;cases hs:A39 (List.replicate len z) (ps.map fun p=>(p.1,ev p.2))with
    |none=>rw[hs]at h;exact h.elim
    |some es=>rw[hs]at h;exact⟨e,sz,d,z,es,rfl,g,i,j,h5,hs,h⟩
def apV(o:Option Obj)(b sz n by_:Nat)(xs:List (List D))(H:Heap)(KD:D→Heap→Prop):Prop:=match o with
 |some (.vec sz' es)=>sz=sz'∧n≤es.length∧(n+xs.length)*by_≤140737488355328∧n+xs.length≤9223372036854775807∧∀b',H.del b b'=none→KD (.vec b' sz 0 (n+xs.length)) ((H.del b).set b' (.vec sz (es.take n++xs)))
 |_=>False
@[go_sem] theorem C7l(b sz sz' n d:Nat)(es xs:List (List D)):apV (some (.vec sz' es)) b sz n d xs H KD=(sz=sz'∧n≤es.length∧(n+xs.length)*d≤140737488355328∧n+xs.length≤9223372036854775807∧∀e,H.del b e=none→KD (.vec e sz 0 (n+xs.length)) ((H.del b).set e (.vec sz (es.take n++xs)))):=rfl
def apW(o:Option Obj)(b sz lo n by_:Nat)(xs:List (List D))(H:Heap)(KD:D→Heap→Prop):Prop:=match o with
 |some (.vec sz' es)=>sz=sz'∧lo+n≤es.length∧(n+xs.length)*by_≤140737488355328∧n+xs.length≤9223372036854775807∧∀b' pre,H.del b b'=none→KD (.vec b' sz pre.length (n+xs.length)) ((H.del b).set b' (.vec sz (pre++((es.drop lo).take n++xs))))
 |_=>False
def apL(lo:Nat)(o:Option Obj)(b sz n by_:Nat)(xs:List (List D))(H:Heap)(KD:D→Heap→Prop):Prop:=(lo=0∧apV o b sz n by_ xs H KD)∨apW o b sz lo n by_ xs H KD
@[go_sem] theorem C9t(o:Option Obj)(b sz n d:Nat)(xs:List (List D)):apL 0 o b sz n d xs H KD=apV o b sz n d xs H KD:=by
 refine propext ⟨fun h=>?_,fun h=>.inl ⟨rfl,h⟩⟩;rcases h with h|h
 ·exact h.2
 ·unfold apW at h;split at h
  ·obtain⟨h1,m,g,i,h5⟩:=h;exact⟨h1,by omega,g,i,fun j e=>by simpa using h5 j [] e⟩
  ·exact h.elim
def apS(s:D)(sz by_:Nat)(xs:List (List D))(H:Heap)(KD:D→Heap→Prop):Prop:=match s with
 | .nilsl=>xs.length*by_≤140737488355328∧xs.length≤9223372036854775807∧(xs= []→KD .nilsl H)∧(xs≠[]→∀b,H b=none→KD (.vec b sz 0 xs.length) (H.set b (.vec sz xs)))
 | .vec b sz' lo n=>sz'=sz∧apL lo (H b) b sz n by_ xs H KD
 |_=>False
@[go_sem] theorem C7m(sz d:Nat)(xs:List (List D)):apS .nilsl sz d xs H KD=(xs.length*d≤140737488355328∧xs.length≤9223372036854775807∧(xs= []→KD .nilsl H)∧(xs≠[]→∀b,H b=none→KD (.vec b sz 0 xs.length) (H.set b (.vec sz xs)))):=rfl
@[go_sem] theorem C7n(b sz sz' lo n d:Nat)(xs:List (List D)):apS (.vec b sz' lo n) sz d xs H KD=(sz'=sz∧apL lo (H b) b sz n d xs H KD):=rfl
def apX(o:Option (List (List D)))(s:D)(sz by_:Nat)(H:Heap)(KD:D→Heap→Prop):Prop:=match o with
 |some xs=>apS s sz by_ xs H KD
 |none=>False
@[go_sem] theorem C6C(xs:List (List D))(s:D)(sz d:Nat):apX (some xs) s sz d H KD=apS s sz d xs H KD:=rfl
def apZ(o:Option (List D))(sz:Nat):Prop:=match o with
 |some z=>z.length=sz
 |none=>False
@[go_sem] theorem C6D(z:List D)(sz:Nat):apZ (some z) sz=(z.length=sz):=rfl
def apT(b:R3):Prop:=b= .slice∨b= .str
@[go_sem] theorem C4y:apT .slice=True:=by simp[apT]
def apK(P:Program)(et:Option (Nat×Nat×Nat))(bt:R3)(s x:D)(H:Heap)(KD:D→Heap→Prop):Prop:=match et with
 |some (e,sz,by_)=>0<sz∧apT bt∧apZ (G1 P e) sz∧apX (M0 H sz x) s sz by_ H KD
 |none=>False
@[go_sem] theorem C6E(e sz d:Nat)(g:R3)(s x:D):apK P (some (e,sz,d)) g s x H KD=(0<sz∧apT g∧apZ (G1 P e) sz∧apX (M0 H sz x) s sz d H KD):=rfl
@[go_sem] theorem C4z(s x:Operand)(t C:Nat):A1N P ev H KD t C s x=apK P (G8 P t) (C8 P C) (ev s) (ev x) H KD:=by
 unfold A1N;apply propext;constructor
 ·rintro⟨e,sz,j,h1,r,u,i,xs,h5,q⟩;rw[h1];refine⟨r,u,?_,?_⟩
  ·cases m:G1 P e with
   |none=>rw[m]at i;cases i
   |some z=>rw[m]at i;simpa [apZ]using i
  ·rw[h5];show apS _ _ _ _ _ _;cases hs:ev s<;>rw[hs]at q<;>try exact q.elim
   ·exact q
   ·obtain⟨p,⟨y,es,d,g⟩|⟨es,d,g⟩⟩:=q
    ·refine⟨p,.inl ⟨y,?_⟩⟩;rw[d];exact⟨rfl,g⟩
    ·refine⟨p,.inr ?_⟩;rw[d];exact⟨rfl,g⟩
 ·intro h;cases he:G8 P t with
  |none=>rw[he]at h;exact h.elim
  |some e=>
   obtain⟨e,sz,j⟩:=e;rw[he]at h;obtain⟨r,u,i,h5⟩:=h;cases hx:M0 H sz (ev x)with
   |none=>rw[hx]at h5;exact h5.elim
   |some xs=>
    rw[hx]at h5;refine⟨e,sz,j,rfl,r,u,?_,xs,hx,?_⟩
    ·cases m:G1 P e with
     |none=>rw[m]at i;exact i.elim
     |some z=>rw[m]at i;simpa [apZ]using i
    ·change apS _ _ _ _ _ _ at h5;cases hs:ev s<;>rw[hs]at h5<;>try exact h5.elim
     ·exact h5
     ·rename_i b sz' lo n;obtain⟨p,⟨y,d⟩|d⟩:=h5
      ·refine⟨p,.inl ⟨y,?_⟩⟩;cases ho:H b with
       |none=>rw[ho]at d;exact d.elim
       |some o=>
        rw[ho]at d;cases o with
        |vec A es=>obtain⟨rfl,g⟩:=d;exact⟨es,rfl,g⟩
        |_=>exact d.elim
      ·refine⟨p,.inr ?_⟩;cases ho:H b with
       |none=>rw[ho]at d;exact d.elim
       |some o=>
        rw[ho]at d;cases o with
        |vec A es=>obtain⟨rfl,g⟩:=d;exact⟨es,rfl,g⟩
        |_=>exact d.elim
def msC(z:Option (List D))(sz by_:Nat)(l c:D)(H:Heap)(KD:D→Heap→Prop):Prop:=match z,l,c with
 |some z,.int _ n,.int _ m=>z.length=sz∧0≤n∧n≤m∧by_*m≤281474976710656∧m<9223372036854775808∧∀b,H b=none→KD (.vec b sz 0 n.toNat) (H.set b (.vec sz (List.replicate n.toNat z)))
 |_,_,_=>False
@[go_sem] theorem C7o(z:List D)(sz d:Nat)(k e:IntKind)(n m:Int):msC (some z) sz d (.int k n) (.int e m) H KD=(z.length=sz∧0≤n∧n≤m∧d*m≤281474976710656∧m<9223372036854775808∧∀b,H b=none→KD (.vec b sz 0 n.toNat) (H.set b (.vec sz (List.replicate n.toNat z)))):=rfl
def msA(P:Program)(et:Option (Nat×Nat×Nat))(l c:D)(H:Heap)(KD:D→Heap→Prop):Prop:=match et with
 |some (e,sz,by_)=>0<sz∧msC (G1 P e) sz by_ l c H KD
 |none=>False
@[go_sem] theorem C6F(e sz d:Nat)(l c:D):msA P (some (e,sz,d)) l c H KD=(0<sz∧msC (G1 P e) sz d l c H KD):=rfl
@[go_sem] theorem C1O(t:Nat)(l c:Operand):D1 P ev H KD (.makeSlice t l c)=msA P (G8 P t) (ev l) (ev c) H KD:=by
 simp only[D1];apply propext;constructor
 ·rintro⟨e,sz,g,z,k,n,r,m,h1,i,d,o,h5,p,q⟩;rw[h1,h5,p];refine⟨i,?_⟩;rw[d];exact⟨o,q⟩
 ·intro h;cases he:G8 P t with
  |none=>rw[he]at h;exact h.elim
  |some e=>
   obtain⟨e,sz,g⟩:=e;rw[he]at h;obtain⟨i,d⟩:=h;cases j:G1 P e with
   |none=>rw[j]at d;exact d.elim
   |some z=>
    rw[j]at d;cases hl:ev l<;>rw[hl]at d<;>try exact d.elim
    cases hc:ev c<;>rw[hc]at d<;>try exact d.elim
    exact⟨e,sz,g,z,_,_,_,_,rfl,i,j,d.1,rfl,rfl,d.2⟩
def A62(P:Program)(t:Nat):Option IntKind:=match P.underlying t with
 |some (.int k)=>some k
 |_=>none
def A8U(P:Program)(t:Nat):Bool:=match P.underlying t with
 |some (.slice e)=>match P.underlying e with
  |some (.int .u8)=>true
  |_=>false
 |_=>false
def cvI(d:D)(k:Option IntKind)(H:Heap)(KD:D→Heap→Prop):Prop:=match d,k with
 | .int _ n,some k=>KD (.int k (k.wrap n)) H
 |_,_=>False
@[go_sem] theorem C7p(k d:IntKind)(n:Int):cvI (.int k n) (some d) H KD=KD (.int d (d.wrap n)) H:=rfl
@[go_sem] theorem C40(s t:Nat)(x:Operand)(h1:(A62 P s).isSome=true)(d:(A62 P t).isSome=true):D1 P ev H KD (.convert s t x)=cvI (ev x) (A62 P t) H KD:=by
 unfold A62 at h1 d;split at h1
 ·rename_i e e1;split at d
  ·rename_i g e2;have hc:J1 P (.convert s t x)= .pure:=by simp[J1,e1,e2]
   simp only[D1,hc,L0];unfold cvI A62;rw[e2];cases hx:ev x<;>simp[B2g,e1,e2,hx,A95 e1]
  ·cases d
 ·cases h1
def C8n(d:D)(H:Heap)(KD:D→Heap→Prop):Prop:=match d with
 | .int _ n=>KD (.str (Utf8.encode n)) H
 |_=>False
@[go_sem] theorem C6G(k:IntKind)(n:Int):C8n (.int k n) H KD=KD (.str (Utf8.encode n)) H:=rfl
def C6H(d:D)(H:Heap)(KD:D→Heap→Prop):Prop:=match d with
 | .str z=>∀b,H b=none→KD (.vec b 1 0 z.size) (H.set b (.vec 1 (E7 z)))
 |_=>False
@[go_sem] theorem C6I(z:ByteArray):C6H (.str z) H KD= ∀b,H b=none→KD (.vec b 1 0 z.size) (H.set b (.vec 1 (E7 z))):=rfl
theorem A7O(s t:Nat)(x:Operand)(h1:C8 P s= .str)(d:A8U P t=true)(h:C6H (ev x) H KD):D1 P ev H KD (.convert s t x):=by
 obtain⟨e,g,he⟩: ∃e,P.underlying t=some (.slice e)∧P.underlying e=some (.int .u8):=by
  unfold A8U at d;split at d
  ·rename_i e g;split at d
   ·rename_i he;exact⟨e,g,he⟩
   ·cases d
  ·cases d
 have hs:P.underlying s=some .string:=by
  unfold C8 at h1;split at h1<;>simp_all
 have hc:J1 P (.convert s t x)= .eff:=by simp[J1,hs,g]
 simp only[D1,hc,A2p];cases hx:ev x<;>rw[hx]at h<;>try exact h.elim
 exact⟨h1,by simp[g,he],h⟩
theorem B4F(t:Nat)(x:Operand){b:Nat}(z:ByteArray)(h1:A8U P t=true)(hx:ev x= .vec b 1 0 z.size)(g:0<z.size)(hb:H b=some (.vec 1 (E7 z)))(h:KD (.sl 1 (E7 z)) (H.del b)):D1 P ev H KD (.convert t t x):=by
 obtain⟨e,d,he⟩: ∃e,P.underlying t=some (.slice e)∧P.underlying e=some (.int .u8):=by
  unfold A8U at h1;split at h1
  ·rename_i e d;split at h1
   ·rename_i he;exact⟨e,d,he⟩
   ·cases h1
  ·cases h1
 have hc:J1 P (.convert t t x)= .eff:=by simp[J1,d]
 simp only[D1,hc,A2p,hx];exact .inr ⟨trivial,by simp[d,he],b,z,rfl,g,hb,h⟩
def A8V(P:Program)(t:Nat)(x:D)(H:Heap)(KD:D→Heap→Prop):Prop:=match x with
 | .str s=>P.underlying t=some .string∧∀b,H b=none→KD (.box b 0) (H.set b (.iter s 0))
 | .fm kvs=>(A3O P t).isSome=true∧∀b,H b=none→KD (.box b 0) (H.set b (.rng kvs []))
 |_=>False
@[go_sem] theorem C7q(t:Nat)(x:Operand):D1 P ev H KD (.range t x)=A8V P t (ev x) H KD:=by
 unfold A8V;rfl
@[go_sem] theorem C41(t:Nat)(kvs:List (D×D)):A8V P t (.fm kvs) H KD=((A3O P t).isSome=true∧∀b,H b=none→KD (.box b 0) (H.set b (.rng kvs []))):=rfl
@[go_sem] theorem C2h(t:Nat)(s:ByteArray):A8V P t (.str s) H KD=(P.underlying t=some .string∧∀b,H b=none→KD (.box b 0) (H.set b (.iter s 0))):=rfl
def B2w(o:Option Obj)(b:Nat)(H:Heap)(KD:D→Heap→Prop):Prop:=match o with
 |some (.iter s pos)=>(pos<s.size→KD (.tuple [.bool true,.int .i64 pos,.int .i32 (Utf8.decode s pos).1]) (H.set b (.iter s (pos+(Utf8.decode s pos).2))))∧(¬pos<s.size→KD (.tuple [.bool false]) H)
 |_=>False
def B5s(x:D)(H:Heap)(KD:D→Heap→Prop):Prop:=match x with
 | .box b 0=>B2w (H b) b H KD
 |_=>False
@[go_sem] theorem C8o(x:Operand):D1 P ev H KD (.next x true)=B5s (ev x) H KD:=by
 unfold B5s B2w;simp only[D1];cases ev x<;>try rfl
 rename_i b off;cases off<;>rfl
def nxR(kvs:List (D×D))(seen:List Nat)(b:Nat)(H:Heap)(KD:D→Heap→Prop):Prop:=(∀i p,kvs[i]? =some p→i∉seen→KD (.tuple [.bool true,p.1,p.2]) (H.set b (.rng kvs (seen++[i]))))∧((∀i,i<kvs.length→i∈seen)→KD (.tuple [.bool false]) H)
theorem A8W{kvs:List (D×D)}{seen:List Nat}{b:Nat}(h1: ∀i (hi:i<kvs.length),i∉seen→KD (.tuple [.bool true,kvs[i].1,kvs[i].2]) (H.set b (.rng kvs (seen++[i]))))(d:(∀i,i<kvs.length→i∈seen)→KD (.tuple [.bool false]) H):nxR kvs seen b H KD:=
 ⟨fun i p hp hn=>by obtain⟨hi,rfl⟩:=D0k.1 hp;exact h1 i hi hn,d⟩
def B2x(o:Option Obj)(b:Nat)(H:Heap)(KD:D→Heap→Prop):Prop:=match o with
 |some (.rng kvs seen)=>nxR kvs seen b H KD
 |_=>False
def B5t(x:D)(H:Heap)(KD:D→Heap→Prop):Prop:=match x with
 | .box b 0=>B2x (H b) b H KD
 |_=>False
@[go_sem] theorem C7s(x:Operand):D1 P ev H KD (.next x false)=B5t (ev x) H KD:=by
 unfold B5t B2x nxR;simp only[D1];cases ev x<;>try rfl
 rename_i b off;cases off<;>rfl
@[go_sem] theorem C42(b:Nat):B5t (.box b 0) H KD=B2x (H b) b H KD:=rfl
@[go_sem] theorem C43(kvs:List (D×D))(seen:List Nat)(b:Nat):B2x (some (.rng kvs seen)) b H KD=nxR kvs seen b H KD:=rfl
def B8w(o:Option (D×D))(H:Heap)(KD:D→Heap→Prop):Prop:=match o with
 |some p=>KD (.tuple [p.1,p.2]) H
 |none=>False
def B5u(o:Option Nat)(kvs:List (D×D))(H:Heap)(KD:D→Heap→Prop):Prop:=match o with
 |some i=>B8w kvs[i]? H KD
 |none=>False
def B8x(o:Option Obj)(H:Heap)(KD:D→Heap→Prop):Prop:=match o with
 |some (.rng kvs seen)=>B5u seen.getLast? kvs H KD
 |_=>False
def C2i(x:D)(H:Heap)(KD:D→Heap→Prop):Prop:=match x with
 | .box b 0=>B8x (H b) H KD
 |_=>False
theorem B8y(o:Option Nat)(kvs:List (D×D)):(∃i p,o=some i∧kvs[i]? =some p∧KD (.tuple [p.1,p.2]) H)=B5u o kvs H KD:=by
 unfold B5u B8w;cases o with
 |none=>simp
 |some i=>
  cases e:kvs[i]? with
  |none=>simp[e]
  |some p=>exact propext ⟨fun⟨j,q,h1,d,g⟩=>by cases h1;rw[e]at d;cases d;simp only[e];exact g,fun h=>⟨i,p,rfl,e,by simp only[e]at h;exact h⟩⟩
@[go_sem] theorem C7t(x:Operand):D1 P ev H KD (.entry x)=C2i (ev x) H KD:=by
 unfold C2i B8x;simp only[D1,B8y];cases ev x<;>try rfl
@[go_sem] theorem C6J(b:Nat):C2i (.box b 0) H KD=B8x (H b) H KD:=rfl
@[go_sem] theorem C6K(kvs:List (D×D))(seen:List Nat):B8x (some (.rng kvs seen)) H KD=B5u seen.getLast? kvs H KD:=rfl
@[go_sem] theorem C44(i:Nat)(kvs:List (D×D)):B5u (some i) kvs H KD=B8w kvs[i]? H KD:=rfl
@[go_sem] theorem C45(p:D×D):B8w (some p) H KD=KD (.tuple [p.1,p.2]) H:=rfl
@[go_sem] theorem C46(b:Nat):B5s (.box b 0) H KD=B2w (H b) b H KD:=rfl
@[go_sem] theorem C2j(s:ByteArray)(pos b:Nat):B2w (some (.iter s pos)) b H KD=((pos<s.size→KD (.tuple [.bool true,.int .i64 pos,.int .i32 (Utf8.decode s pos).1]) (H.set b (.iter s (pos+(Utf8.decode s pos).2))))∧(¬pos<s.size→KD (.tuple [.bool false]) H)):=rfl
variable {t:Nat}
@[go_sem] theorem A2(b:Nat)(o:Obj):(H.set b o) b=some o:=by simp[Heap.set]
theorem C0{b k:Nat}(o:Obj)(h:k≠b):(H.set b o) k=H k:=by simp[Heap.set,h]
@[go_sem] theorem B8z(b:Nat)(o o':Obj):(H.set b o).set b o'=H.set b o':=by
 funext k;unfold Heap.set;split<;>rfl
theorem B2{b:Nat}{o:Obj}(h:H b=some o):(H.set b o).Le H:=fun k x hx=>by
 unfold Heap.set at hx;split at hx
 ·rename_i e;rw[e,h];exact hx
 ·exact hx
theorem A6{b k:Nat}{o:Obj}:(H.set b o) k=none↔k≠b∧H k=none:=by unfold Heap.set;by_cases h:k=b<;>simp[h]
theorem F1{b k:Nat}(h:k≠b):(H.del b) k=H k:=by simp[Heap.del,h]
theorem A0{b:Nat}{o:Obj}(h:H b=none):H.Le (H.set b o):=fun k x hx=>by
 rw[C0 o (by rintro rfl;rw[h]at hx;cases hx)];exact hx
theorem A4{b k:Nat}(o:Obj)(h:k≠b):(H.set b o) k=H k:=by simp[Heap.set,h]
def B5v:Option (Bool×Nat)→Option (List D)→Option D
 |some s,some cs=>y7 s cs
 |_,_=>none
@[go_sem] theorem C6L(a:D):y9 P t a H=B5v (F8 P t) (A38 H a):=by
 unfold y9 B5v;cases F8 P t<;>simp;cases A38 H a<;>rfl
@[go_sem] theorem C2k(s:Bool×Nat)(cs:List D):B5v (some s) (some cs)=y7 s cs:=rfl
def C6M:Option Obj→Nat→Option (List D)
 |some (.box cs _),off=>some (cs.drop off)
 |_,_=>none
def C6N:Option Obj→Nat→Nat→Nat→Option (List D)
 |some (.vec sz' es),sz,i,off=>if sz=sz' then(es[i]?).map (·.drop off)else none
 |_,_,_,_=>none
@[go_sem] theorem C7u(b off:Nat):A38 H (.box b off)=C6M (H b) off:=by
 simp only[A38];generalize H b=o;cases o with
 |none=>rfl
 |some o=>cases o<;>rfl
@[go_sem] theorem C8p(b sz i off:Nat):A38 H (.el b sz i off)=C6N (H b) sz i off:=by
 simp only[A38];generalize H b=o;cases o with
 |none=>rfl
 |some o=>cases o<;>rfl
@[go_sem] theorem C8q(cs:List D):A38 H (.ro cs)=some cs:=rfl
@[go_sem] theorem C6O(cs:List D)(Z:Option TypeId)(off:Nat):C6M (some (.box cs Z)) off=some (cs.drop off):=rfl
@[go_sem] theorem C6P(sz sz' i off:Nat)(es:List (List D)):C6N (some (.vec sz' es)) sz i off=if sz=sz' then(es[i]?).map (·.drop off)else none:=rfl
@[go_sem] theorem C6Q(n:Nat)(cs:List D):y7 (false,n) cs=cs.head?:=rfl
@[go_sem] theorem C6R(n:Nat)(cs:List D):y7 (true,n) cs=if n≤cs.length then some (.agg (cs.take n))else none:=rfl
def A4N:Option (Bool×Nat)→Option Obj→Nat→Nat→List D→Heap→Option Heap
 |some (_,n),some (.box cs Z),b,off,xs,H=>if n=xs.length∧xs.all D.one=true∧off+xs.length≤cs.length then some (H.set b (.box (P4 cs off xs) Z))else none
 |_,_,_,_,_,_=>none
def A0D:Option (Bool×Nat)→Option Obj→Nat→Nat→Nat→Nat→List D→Heap→Option Heap
 |some (_,n),some (.vec sz' es),b,sz,i,off,xs,H=>if n=xs.length∧xs.all D.one=true∧sz=sz'∧i<es.length∧off+xs.length≤sz then some (H.set b (.vec sz (es.set i (P4 (es.getD i []) off xs))))else none
 |_,_,_,_,_,_,_,_=>none
@[go_sem] theorem C47(b off:Nat)(x:D):Z2 P t (.box b off) x H=A4N (F8 P t) (H b) b off x.cells H:=by
 unfold Z2;cases hs:F8 P t with
 |none=>simp[A4N]
 |some s=>
  obtain⟨bb,n⟩:=s;cases hb:H b with
  |none=>simp[A4N,hb]
  |some o=>cases o with
   |box cs=>
    simp only[Option.map_some,D1C,A4N,hb];by_cases h1:n=x.cells.length<;>by_cases d:x.cells.all D.one=true<;>by_cases e:off+x.cells.length≤cs.length<;>simp only[h1,d,e]<;>simp
   |_=>simp[A4N,hb]
@[go_sem] theorem C6S(b sz i off:Nat)(x:D):Z2 P t (.el b sz i off) x H=A0D (F8 P t) (H b) b sz i off x.cells H:=by
 unfold Z2;cases hs:F8 P t with
 |none=>simp[A0D]
 |some s=>
  obtain⟨bb,n⟩:=s;cases hb:H b with
  |none=>simp[A0D,hb]
  |some o=>cases o with
   |box cs=>simp[A0D,hb]
   |ro cs=>simp[A0D,hb]
   |iter=>simp[A0D,hb]
   |map=>simp[A0D,hb]
   |rng=>simp[A0D,hb]
   |buf=>simp[A0D,hb]
   |vec sz' es=>
    simp only[Option.map_some,D1C,A0D,hb];by_cases h1:n=x.cells.length<;>by_cases d:x.cells.all D.one=true<;>simp only[h1,d]<;>simp
@[go_sem] theorem C2l(bb:Bool)(n b off:Nat)(cs xs:List D)(Z:Option TypeId):A4N (some (bb,n)) (some (.box cs Z)) b off xs H=if n=xs.length∧xs.all D.one=true∧off+xs.length≤cs.length then some (H.set b (.box (P4 cs off xs) Z))else none:=rfl
@[go_sem] theorem C2m(bb:Bool)(n b sz sz' i off:Nat)(es:List (List D))(xs:List D):A0D (some (bb,n)) (some (.vec sz' es)) b sz i off xs H=if n=xs.length∧xs.all D.one=true∧sz=sz'∧i<es.length∧off+xs.length≤sz then some (H.set b (.vec sz (es.set i (P4 (es.getD i []) off xs))))else none:=rfl
@[go_sem] theorem C48(cs:List D)(i:Nat):P4 cs i []=cs:=by cases cs<;>rfl
@[go_sem] theorem C2n(cs xs:List D)(i:Nat)(x:D):P4 cs i (x::xs)=P4 (cs.set i x) (i+1) xs:=by cases cs<;>rfl
@[go_sem] theorem C49(cs:List D):(D.agg cs).cells=cs:=rfl
@[go_sem] theorem C5A(k:IntKind)(n:Int):(D.int k n).cells= [.int k n]:=rfl
@[go_sem] theorem C2o(b:Bool):(D.bool b).cells= [.bool b]:=rfl
@[go_sem] theorem C5B(s:ByteArray):(D.str s).cells= [.str s]:=rfl
@[go_sem] theorem C1P:D.nilsl.cells= [.nilsl]:=rfl
@[go_sem] theorem C6T(sz:Nat)(es:List (List D)):(D.sl sz es).cells= [.sl sz es]:=rfl
@[go_sem] theorem C5C(b sz lo n:Nat):(D.vec b sz lo n).cells= [.vec b sz lo n]:=rfl
@[go_sem] theorem C5D(b:Nat):(D.map b).cells= [.map b]:=rfl
attribute [go_sem] D.one
def A0E(e:Option (Nat×Nat×Nat))(sz:Nat)(o:Option D):Option D:=match e with
 |some (_,sz',_)=>if sz'=sz then o else none
 |none=>none
@[go_sem] theorem C1Q(e sz' d sz:Nat)(o:Option D):A0E (some (e,sz',d)) sz o=if sz'=sz then o else none:=rfl
def A23(x:D):Option (Nat×Nat)→Option D
 |none=>none
 |some (l,h)=>match x with
  | .str s=>some (.str (s.extract l h))
  | .nilsl=>some .nilsl
  | .sl sz es=>some (.sl sz ((es.take h).drop l))
  | .vec b sz lo _=>some (if l=0 then .vec b sz lo h else .vec b sz (lo+l) (h-l))
  |_=>none
def Z5(x:D)(b:Option (Nat×Nat)):Option D:=A23 x b
theorem A13(x:D)(c:Prop) [Decidable c] (b:Option (Nat×Nat)):Z5 x (if c then b else none)=if c then Z5 x b else none:=by split<;>rfl
theorem C2p(n:Nat)(k:IntKind)(l:Int):boundsD n (some (.int k l)) none=if 0≤l∧l≤n then some (l.toNat,n)else none:=rfl
theorem C2q(n:Nat)(k:IntKind)(h:Int):boundsD n none (some (.int k h))=if 0≤h∧h≤n then some (0,h.toNat)else none:=rfl
theorem C2r(n:Nat)(k d:IntKind)(l h:Int):boundsD n (some (.int k l)) (some (.int d h))=if 0≤l∧l≤h∧h≤n then some (l.toNat,h.toNat)else none:=rfl
theorem A4O(s:ByteArray)(lo d:Option D):U3 P t (.str s) lo d=if C8 P t= .str then Z5 (.str s) (boundsD s.size lo d)else none:=by
 simp only[U3,Z5];generalize boundsD s.size lo d=o;cases o<;>rfl
def B1o(b:R3)(o:Option D):Option D:=if b= .str then o else none
@[go_sem] theorem C6U(o:Option D):B1o .str o=o:=rfl
@[go_sem] theorem B80(s:ByteArray)(k:IntKind)(l:Int):U3 P t (.str s) (some (.int k l)) none=B1o (C8 P t) (if 0≤l∧l≤s.size then some (.str (S ((B s).drop l.toNat)))else none):=by
 rw[A4O];unfold B1o;have:s.extract l.toNat s.size=S ((B s).drop l.toNat):=by rw[A4L,←U6,List.take_length]
 rw[C2p,A13];split
 ·split
  ·show some (D.str (s.extract l.toNat s.size))=_;rw[this]
  ·rfl
 ·rfl
@[go_sem] theorem B81(s:ByteArray)(k:IntKind)(h:Int):U3 P t (.str s) none (some (.int k h))=B1o (C8 P t) (if 0≤h∧h≤s.size then some (.str (S ((B s).take h.toNat)))else none):=by
 rw[A4O];unfold B1o;have:s.extract 0 h.toNat=S ((B s).take h.toNat):=by rw[A4L,List.drop_zero]
 rw[C2q,A13];split
 ·split
  ·show some (D.str (s.extract 0 h.toNat))=_;rw[this]
  ·rfl
 ·rfl
@[go_sem] theorem B82(s:ByteArray)(k d:IntKind)(l h:Int):U3 P t (.str s) (some (.int k l)) (some (.int d h))=B1o (C8 P t) (if 0≤l∧l≤h∧h≤s.size then some (.str (S (((B s).take h.toNat).drop l.toNat)))else none):=by
 rw[A4O];unfold B1o;rw[C2r,A13];split
 ·split
  ·show some (D.str (s.extract l.toNat h.toNat))=_;rw[A4L]
  ·rfl
 ·rfl
@[go_sem] theorem C5E(lo d:Option D):U3 P t .nilsl lo d=if(G8 P t).isSome then Z5 .nilsl (boundsD 0 lo d)else none:=by
 simp only[U3,Z5];generalize boundsD 0 lo d=o;cases o<;>rfl
@[go_sem] theorem C6V(sz:Nat)(es:List (List D))(lo d:Option D):U3 P t (.sl sz es) lo d=A0E (G8 P t) sz (Z5 (.sl sz es) (boundsD es.length lo d)):=by
 simp only[U3,Z5];generalize boundsD es.length lo d=o;cases G8 P t with
 |none=>simp[A0E]
 |some e=>cases o<;>simp[A23,A0E]
@[go_sem] theorem C5F(b sz l n:Nat)(lo d:Option D):U3 P t (.vec b sz l n) lo d=A0E (G8 P t) sz (Z5 (.vec b sz l n) (boundsD n lo d)):=by
 simp only[U3,Z5];generalize boundsD n lo d=o;cases G8 P t with
 |none=>simp[A0E]
 |some e=>cases o<;>simp[A23,A0E]
@[go_sem] theorem C1R(x:D)(l h:Nat):Z5 x (some (l,h))=A23 x (some (l,h)):=rfl
@[go_sem] theorem C2s(x:D)(c:Prop) [Decidable c] (b:Option (Nat×Nat)):Z5 x (if c then b else none)=if c then Z5 x b else none:=by split<;>rfl
@[go_sem] theorem C2t(l h:Nat):A23 .nilsl (some (l,h))=some .nilsl:=rfl
@[go_sem] theorem C5G(sz l h:Nat)(es:List (List D)):A23 (.sl sz es) (some (l,h))=some (.sl sz ((es.take h).drop l)):=rfl
@[go_sem] theorem C2u(b sz lo n l h:Nat):A23 (.vec b sz lo n) (some (l,h))=some (if l=0 then .vec b sz lo h else .vec b sz (lo+l) (h-l)):=rfl
@[go_sem] theorem C9w(n:Nat)(k:IntKind)(l:Int):boundsD n (some (.int k l)) none=if 0≤l∧l≤n then some (l.toNat,n)else none:=rfl
@[go_sem] theorem C9x(n:Nat)(k:IntKind)(h:Int):boundsD n none (some (.int k h))=if 0≤h∧h≤n then some (0,h.toNat)else none:=rfl
@[go_sem] theorem C7v(s:ByteArray):A5j P t (.str s)=if C8 P t= .str then some (.int .i64 s.size)else none:=rfl
@[go_sem] theorem C7w:A5j P t .nilsl=if C8 P t= .slice then some (.int .i64 0)else none:=rfl
@[go_sem] theorem C8r(sz:Nat)(es:List (List D)):A5j P t (.sl sz es)=if C8 P t= .slice then some (.int .i64 es.length)else none:=rfl
@[go_sem] theorem C7x(b sz lo n:Nat):A5j P t (.vec b sz lo n)=if C8 P t= .slice then some (.int .i64 n)else none:=rfl
@[go_sem] theorem C8s(s:ByteArray)(k:IntKind)(n:Int):A5k P t (.str s) (.int k n)=if C8 P t= .str∧0≤n∧n<s.size then some (.int .u8 (S7 s n))else none:=rfl
@[go_sem] theorem C9y(sz:Nat)(es:List (List D))(k:IntKind)(n:Int):Q4 P t (.sl sz es) (.int k n)=A0E (G8 P t) sz (if 0≤n∧n<es.length then some (.ro (es.getD n.toNat []))else none):=by
 unfold Q4 A0E;cases G8 P t with
 |none=>simp
 |some e=>obtain⟨a,b,c⟩:=e;by_cases h:b=sz<;>simp[h]
@[go_sem] theorem C8t(b sz l m:Nat)(k:IntKind)(n:Int):Q4 P t (.vec b sz l m) (.int k n)=A0E (G8 P t) sz (if 0≤n∧n<m then some (.el b sz (l+n.toNat) 0)else none):=by
 unfold Q4 A0E;cases G8 P t with
 |none=>simp
 |some e=>obtain⟨a,d,c⟩:=e;by_cases h:d=sz<;>simp[h]
def A58(f:Option (Nat×Bool×Nat))(x:D):Option D:=match f with
 |some (o,_,n)=>if n=0 then none else match x with
  | .box b off=>some (.box b (off+o))
  | .el b sz i off=>some (.el b sz i (off+o))
  | .ro cs=>some (.ro (cs.drop o))
  |_=>none
 |none=>none
def A8X(l:Option (List (Nat×Bool×Nat)))(f:Nat):Option (Nat×Bool×Nat):=match l with
 |some l=>l[f]?
 |none=>none
@[go_sem] theorem B83(l:List (Nat×Bool×Nat))(f:Nat):A8X (some l) f=l[f]? :=rfl
@[go_sem] theorem C8u(x:D)(f:Nat):Z0 P t x f=A58 (A8X (L4 P t) f) x:=by
 unfold Z0 A58 A8X;cases L4 P t<;>rfl
@[go_sem] theorem C2v(o n b off:Nat)(bb:Bool):A58 (some (o,bb,n)) (.box b off)=if n=0 then none else some (.box b (off+o)):=rfl
@[go_sem] theorem C5H(o n b sz i off:Nat)(bb:Bool):A58 (some (o,bb,n)) (.el b sz i off)=if n=0 then none else some (.el b sz i (off+o)):=rfl
@[go_sem] theorem C5I(o n:Nat)(bb:Bool)(cs:List D):A58 (some (o,bb,n)) (.ro cs)=if n=0 then none else some (.ro (cs.drop o)):=rfl
@[go_sem] theorem C6W(d:List ResultVar)(Q:D→Heap→Prop):A8N P d Q .ret E H=B8q (A21 P d E H) Q H:=rfl
@[go_sem] theorem C1S(d:List ResultVar)(Q:D→Heap→Prop):A8N P d Q .normal E H=B8q (A21 P d E H) Q H:=rfl
@[go_sem] theorem C5J(d:D)(Q:D→Heap→Prop):B8q (some d) Q H=Fin Q d H:=by simp[B8q]
@[go_sem] theorem C5K:A21 P [] E H=some (.tuple []):=rfl
@[go_sem] theorem C6X(t:Nat):A21 P [.tmp t] E H=some (E.get t):=rfl
def B1p(P:Program)(rs:List ResultVar)(E:Env)(H:Heap):Option (List D):=rs.mapM (A0Z P E H)
def C1T:Option D→Option (List D)→Option (List D)
 |some d,some l=>some (d::l)
 |_,_=>none
@[go_sem] theorem C2w(d:D)(l:List D):C1T (some d) (some l)=some (d::l):=rfl
@[go_sem] theorem C6Y:B1p P [] E H=some []:=rfl
@[go_sem] theorem A7P(r:ResultVar)(d:List ResultVar):B1p P (r::d) E H=C1T (A0Z P E H r) (B1p P d E H):=by
 simp only[B1p,List.mapM_cons,Option.bind_eq_bind,Option.pure_def];cases A0Z P E H r<;>cases List.mapM (A0Z P E H) d<;>rfl
@[go_sem] theorem C5L(r d:ResultVar)(e:List ResultVar):A21 P (r::d::e) E H=(B1p P (r::d::e) E H).map .tuple:=by
 unfold A21;show Option.map _ (B1p P (r::d::e) E H)=_;rw[A7P,A7P];cases A0Z P E H r<;>cases A0Z P E H d<;>cases B1p P e E H<;>rfl
@[go_sem] theorem C5M(t:Nat):A0Z P E H (.tmp t)=some (E.get t):=rfl
@[go_sem] theorem C2x(a t:Nat):A0Z P E H (.cell a t)=y9 P t (E.get a) H:=rfl
@[go_sem] theorem C5N(a t:Nat):A21 P [.cell a t] E H=y9 P t (E.get a) H:=by
 simp[A21,A0Z,List.mapM_cons];cases y9 P t (E.get a) H<;>rfl
end
theorem A3{x:Int}(h1: -9223372036854775808≤x)(d:x≤9223372036854775807):IntKind.i64.wrap x=x:=IntWalk.i64_in _ (by omega)
def Sub:Env→Env→Prop
 | [],_=>True
 |(i,d)::r,E=>E.get i=d∧Sub r E
def Nx{ι :Type}(Ei: ι →Env)(Hi: ι →Heap)(Inv: ι →Prop)(μ : ι →Nat)(x: ι):Env→Heap→Prop:=fun E' H'=>∃y,Inv y∧ μ y< μ x∧A02 (Ei y) (Hi y) E' H'
theorem Sub.all: ∀{E0 E:Env},Sub E0 E→∀p∈E0,E.get p.1=p.2
 | [],_,_,_,hp=>by simp at hp
 |(i,d)::r,E,h,p,hp=>by
  rcases D02.1 hp with rfl|hp
  ·exact h.1
  ·exact Sub.all h.2 p hp
theorem C2y{P:Program}{Z:List (Nat×Rc)}{c:Code}{Q:AX→Env→Heap→Prop}{E:Env}{H:Heap}{ι :Type}(e: ι →Env)(g: ι →Heap)(d: ι →Prop)(μ : ι →Nat)(h: ι)(p:d h)(hw:A02 (e h) (g h) E H)
  (step: ∀x,d x→wp P Z c (A55 Q (Nx e g d μ x)) (e x) (g x)):B5f P Z c Q E H:=by
 refine⟨fun n E H=>∃x,d x∧ μ x=n∧E=e x∧H=g x,⟨μ h,e h,g h,hw,h,p,rfl,rfl,rfl⟩,?_⟩;rintro n q r ⟨x,hx,rfl,rfl,rfl⟩;have i:(fun o H'=>∃m E0 H0,m< μ x∧A02 E0 H0 o H'∧∃x,d x∧ μ x=m∧E0=e x∧H0=g x)=Nx e g d μ x:=by
  funext o H'
  apply propext;constructor
  ·rintro⟨m,E0,H0,hm,hw,y,j,rfl,rfl,rfl⟩;exact⟨y,j,hm,hw⟩
  ·rintro⟨y,j,hm,hs⟩;exact⟨μ y,e y,g y,hm,hs,y,j,rfl,rfl,rfl⟩
 have:=step x hx;rw[i];exact this
theorem C2z{P:Program}{Z:List (Nat×Rc)}{c:Code}{Q:AX→Env→Heap→Prop}{E:Env}{H:Heap}{ι :Type}(e: ι →Env)(g: ι →Heap)(d: ι →Prop)(μ : ι →Nat)(h: ι)(i:d h)(j:Sub (e h) E)(m:(g h).Le H)
  (step: ∀x,d x→wp P Z c (A55 Q (Nx e g d μ x)) (e x) (g x)):B5f P Z c Q E H:=C2y e g d μ h i (A8M j.all m) step
attribute [go_sem] Sub
theorem O2{P:Program}{K:Env→Heap→Prop}{E:Env}{H:Heap}{d:List (Option Nat)}{ops:List Oper}(E0:Env)(H0:Heap)(e:Sub E0 E)(g:H0.Le H)(h:wpOps P d K ops E0 H0):A4u P d ops K E H (some .wk):=⟨E0,H0,A8M e.all g,h⟩
theorem P8{C T G:Prop}(h:(C→T)→G)(t:C→T):G:=h t
def A24(E:Env):List Nat→Env
 | []=>[]
 |t::ts=>(t,E.get t)::A24 E ts
def cat:Env→Env→Env
 | [],F=>F
 |p::E,F=>p::cat E F
@[go_sem] theorem C20(E:Env):A24 E []= []:=rfl
@[go_sem] theorem C1V(E:Env)(t:Nat)(d:List Nat):A24 E (t::d)=(t,E.get t)::A24 E d:=rfl
@[go_sem] theorem C7y(F:Env):cat [] F=F:=rfl
@[go_sem] theorem C6Z(p:Nat×D)(E F:Env):cat (p::E) F=p::cat E F:=rfl
theorem B2y: ∀{A B E:Env},Sub A E→Sub B E→Sub (cat A B) E
 | [],_,_,_,h=>h
 |_::_,_,_,h1,d=>⟨h1.1,B2y h1.2 d⟩
theorem A59(E:Env): ∀d,Sub (A24 E d) E
 | []=>trivial
 |_::d=>⟨rfl,A59 E d⟩
theorem C4{P:Program}{Z:List (Nat×Rc)}{c:Code}{Q:AX→Env→Heap→Prop}{E:Env}{H:Heap}{ι :Type}(i:List Nat)(e: ι →Env)(g: ι →Heap)(d: ι →Prop)(μ : ι →Nat)(h: ι)(j:d h)(m:Sub (e h) E)(o:(g h).Le H)
  (step: ∀Ec,Ec=A24 E i→∀x,d x→wp P Z c (A55 Q (Nx (fun x=>cat Ec (e x)) g d μ x)) (cat Ec (e x)) (g x)):B5f P Z c Q E H:=C2z (fun x=>cat (A24 E i) (e x)) g d μ h j (B2y (A59 E i) m) o (step _ rfl)
theorem C2{ι :Type}{e: ι →Env}{g: ι →Heap}{d: ι →Prop}{μ : ι →Nat}{x: ι}{h:Env}{H':Heap}(y: ι)(h1:d y)(i: μ y< μ x)(j:Sub (e y) h)(m:(g y).Le H'):Nx e g d μ x h H':=⟨y,h1,i,A8M j.all m⟩
theorem B5w{ι :Type}{e: ι →Env}{g: ι →Heap}{d: ι →Prop}{μ : ι →Nat}{x: ι}{h:Env}{H':Heap}(y: ι)(h1:d y)(i: μ y< μ x)(j:A02 (e y) (g y) h H'):Nx e g d μ x h H':=⟨y,h1,i,j⟩
def V8(l:List UInt8)(k:Nat):Int:=((l.getD k 0).toNat:Int)
theorem B2z(s:ByteArray)(k:Nat):S7 s k=V8 (B s) k:=rfl
@[go_sem] theorem C9z(l:List UInt8)(i:Int):S7 (S l) i=V8 l i.toNat:=by
 show (((S l).data.toList.getD i.toNat 0).toNat:Int)=_;rw[show (S l).data.toList=l from x9 l];rfl
theorem A97(s:ByteArray):S7 s 0=V8 (B s) 0:=rfl
attribute [irreducible] Fin B5f Nx
attribute [go_sem] W9 D1r List.map_nil Option.map_some Option.map_none D1m D1P D1l D1y D1z Bool.not_eq_true' Bool.not_eq_false' D0w decide_eq_false_iff_not true_and and_true List.drop_succ_cons List.drop_zero List.head?_cons List.take_succ_cons List.take_zero D0f D0h List.set_cons_zero List.set_cons_succ D1d List.all_nil Bool.and_true Bool.true_and List.getElem?_cons_zero D06 Nat.zero_add Nat.add_zero Int.toNat_natCast forall_const implies_true Option.isSome_some ne_eq not_true_eq_false not_false_eq_true D0u beq_iff_eq bne_iff_ne beq_eq_false_iff_ne Nat.le_add_left D1q beq_self_eq_true if_true if_false D08 D1I Int.toNat_natCast_add_one Option.map_map List.size_toArray D01 false_imp_iff true_imp_iff D0g D1a D1J decide_true decide_false List.replicate_succ List.replicate_zero D09 D1A List.append_eq Nat.min_self
end Go.Av
namespace Go.Proofs
open Go.Av
@[go_sem] theorem C5a:A62 Tryz.prog 2=some .i64:=by kernel_rfl
@[go_sem] theorem C4H:C8 Tryz.prog 3= .int:=by kernel_rfl
@[go_sem] theorem C17:F8 Tryz.prog 3=some (false,1):=by kernel_rfl
@[go_sem] theorem C5b:A62 Tryz.prog 3=some .i64:=by kernel_rfl
@[go_sem] theorem C4R:G1 Tryz.prog 3=some [.int .i64 0]:=by kernel_rfl
@[go_sem] theorem C5X:A1o Tryz.prog 3=none:=by kernel_rfl
@[go_sem] theorem C4I:C8 Tryz.prog 4= .bool:=by kernel_rfl
@[go_sem] theorem C18:F8 Tryz.prog 4=some (false,1):=by kernel_rfl
@[go_sem] theorem C4S:G1 Tryz.prog 4=some [.bool false]:=by kernel_rfl
@[go_sem] theorem C4V:Go.Av.A5n Tryz.prog 4=some (.bool false):=by kernel_rfl
@[go_sem] theorem C5Y:A1o Tryz.prog 4=none:=by kernel_rfl
@[go_sem] theorem C19:F8 Tryz.prog 5=some (false,1):=by kernel_rfl
@[go_sem] theorem C4T:G1 Tryz.prog 5=some [.int .u8 0]:=by kernel_rfl
@[go_sem] theorem C4J:C8 Tryz.prog 9= .str:=by kernel_rfl
@[go_sem] theorem C2A:F8 Tryz.prog 9=some (false,1):=by kernel_rfl
@[go_sem] theorem C4U:G1 Tryz.prog 9=some [.str ⟨#[]⟩]:=by kernel_rfl
@[go_sem] theorem C0v:F8 Tryz.prog 22=some (false,1):=by kernel_rfl
@[go_sem] theorem C1k:C8 Tryz.prog 23= .slice:=by kernel_rfl
@[go_sem] theorem C0w:F8 Tryz.prog 23=some (false,1):=by kernel_rfl
@[go_sem] theorem C1y:G8 Tryz.prog 23=some (114,2,24):=by kernel_rfl
@[go_sem] theorem C1l:C8 Tryz.prog 25= .struct:=by kernel_rfl
@[go_sem] theorem C0x:F8 Tryz.prog 25=some (true,3):=by kernel_rfl
@[go_sem] theorem B8S:L4 Tryz.prog 25=some [(0,false,1),(1,false,1),(2,false,1)]:=by kernel_rfl
@[go_sem] theorem C2B:G1 Tryz.prog 25=some [.nilsl,.int .i64 0,.bool false]:=by kernel_rfl
@[go_sem] theorem C4K:A1o Tryz.prog 25=none:=by kernel_rfl
@[go_sem] theorem C1m:C8 Tryz.prog 26= .slice:=by kernel_rfl
@[go_sem] theorem C0y:F8 Tryz.prog 26=some (false,1):=by kernel_rfl
@[go_sem] theorem C1z:G8 Tryz.prog 26=some (28,7,96):=by kernel_rfl
@[go_sem] theorem C2C:G1 Tryz.prog 26=some [.nilsl]:=by kernel_rfl
@[go_sem] theorem C1n:C8 Tryz.prog 28= .struct:=by kernel_rfl
@[go_sem] theorem C0z:F8 Tryz.prog 28=some (true,7):=by kernel_rfl
@[go_sem] theorem B8T:L4 Tryz.prog 28=some [(0,false,1),(1,false,1),(2,true,3),(5,false,1),(6,false,1)]:=by kernel_rfl
@[go_sem] theorem C2D:G1 Tryz.prog 28=some [.int .i64 0,.int .i64 0,.nilsl,.int .i64 0,.bool false,.str ⟨#[]⟩,.nilsl]:=by kernel_rfl
@[go_sem] theorem C4L:A1o Tryz.prog 28=none:=by kernel_rfl
@[go_sem] theorem C1o:C8 Tryz.prog 31= .slice:=by kernel_rfl
@[go_sem] theorem C00:F8 Tryz.prog 31=some (false,1):=by kernel_rfl
@[go_sem] theorem C10:G8 Tryz.prog 31=some (9,1,16):=by kernel_rfl
@[go_sem] theorem C1p:C8 Tryz.prog 40= .slice:=by kernel_rfl
@[go_sem] theorem C01:F8 Tryz.prog 40=some (false,1):=by kernel_rfl
@[go_sem] theorem C11:G8 Tryz.prog 40=some (71,2,24):=by kernel_rfl
@[go_sem] theorem C1q:C8 Tryz.prog 71= .struct:=by kernel_rfl
@[go_sem] theorem C02:F8 Tryz.prog 71=some (true,2):=by kernel_rfl
@[go_sem] theorem B8U:L4 Tryz.prog 71=some [(0,false,1),(1,false,1)]:=by kernel_rfl
@[go_sem] theorem C5Z:A1L Tryz.prog 71=some [(0,.str),(1,.int)]:=by kernel_rfl
@[go_sem] theorem C2E:G1 Tryz.prog 71=some [.str ⟨#[]⟩,.int .i64 0]:=by kernel_rfl
@[go_sem] theorem C4M:A1o Tryz.prog 71=none:=by kernel_rfl
@[go_sem] theorem C1r:C8 Tryz.prog 72= .map:=by kernel_rfl
@[go_sem] theorem C03:F8 Tryz.prog 72=some (false,1):=by kernel_rfl
@[go_sem] theorem C2F:G1 Tryz.prog 72=some [.nilmap]:=by kernel_rfl
@[go_sem] theorem C4Q:A3O Tryz.prog 72=some (9,4,.one .str):=by kernel_rfl
@[go_sem] theorem C4N:A1o Tryz.prog 72=none:=by kernel_rfl
@[go_sem] theorem C1s:C8 Tryz.prog 91= .slice:=by kernel_rfl
@[go_sem] theorem C12:G8 Tryz.prog 91=some (72,1,8):=by kernel_rfl
@[go_sem] theorem C1t:C8 Tryz.prog 95= .slice:=by kernel_rfl
@[go_sem] theorem C13:G8 Tryz.prog 95=some (5,1,1):=by kernel_rfl
@[go_sem] theorem C2G:G1 Tryz.prog 97=some [.nilp,.nilsl]:=by kernel_rfl
@[go_sem] theorem C4O:A1o Tryz.prog 97=some 97:=by kernel_rfl
@[go_sem] theorem C0a:C8 Tryz.prog 103= .struct:=by kernel_rfl
@[go_sem] theorem B8I:L4 Tryz.prog 103=some [(0,false,1),(1,false,1)]:=by kernel_rfl
@[go_sem] theorem C04:G1 Tryz.prog 103=some [.str ⟨#[]⟩,.bool false]:=by kernel_rfl
@[go_sem] theorem C0b:C8 Tryz.prog 110= .slice:=by kernel_rfl
@[go_sem] theorem B8V:F8 Tryz.prog 110=some (false,1):=by kernel_rfl
@[go_sem] theorem C0n:G8 Tryz.prog 110=some (25,3,40):=by kernel_rfl
@[go_sem] theorem C05:G1 Tryz.prog 110=some [.nilsl]:=by kernel_rfl
@[go_sem] theorem C0c:C8 Tryz.prog 114= .struct:=by kernel_rfl
@[go_sem] theorem B8W:F8 Tryz.prog 114=some (true,2):=by kernel_rfl
@[go_sem] theorem B8J:L4 Tryz.prog 114=some [(0,false,1),(1,false,1)]:=by kernel_rfl
@[go_sem] theorem C4P:A1L Tryz.prog 114=some [(0,.str),(1,.int)]:=by kernel_rfl
@[go_sem] theorem C06:G1 Tryz.prog 114=some [.str ⟨#[]⟩,.int .i64 0]:=by kernel_rfl
@[go_sem] theorem C1u:A1o Tryz.prog 114=none:=by kernel_rfl
@[go_sem] theorem C0d:C8 Tryz.prog 150= .struct:=by kernel_rfl
@[go_sem] theorem B8X:F8 Tryz.prog 150=some (true,2):=by kernel_rfl
@[go_sem] theorem B8K:L4 Tryz.prog 150=some [(0,false,1),(1,false,1)]:=by kernel_rfl
@[go_sem] theorem C07:G1 Tryz.prog 150=some [.nilsl,.nilmap]:=by kernel_rfl
@[go_sem] theorem C1v:A1o Tryz.prog 150=none:=by kernel_rfl
@[go_sem] theorem C14:A62 Tryz.prog 163=some .u64:=by kernel_rfl
@[go_sem] theorem B8Y:F8 Tryz.prog 194=some (false,1):=by kernel_rfl
@[go_sem] theorem C15:A62 Tryz.prog 194=some .u32:=by kernel_rfl
@[go_sem] theorem C08:G1 Tryz.prog 194=some [.int .u32 0]:=by kernel_rfl
@[go_sem] theorem C16:A62 Tryz.prog 196=some .u64:=by kernel_rfl
@[go_sem] theorem C0e:C8 Tryz.prog 208= .slice:=by kernel_rfl
@[go_sem] theorem C0o:G8 Tryz.prog 208=some (110,1,24):=by kernel_rfl
@[go_sem] theorem C0f:C8 Tryz.prog 210= .slice:=by kernel_rfl
@[go_sem] theorem C0p:G8 Tryz.prog 210=some (26,1,24):=by kernel_rfl
@[go_sem] theorem C0g:C8 Tryz.prog 216= .slice:=by kernel_rfl
@[go_sem] theorem B8Z:F8 Tryz.prog 216=some (false,1):=by kernel_rfl
@[go_sem] theorem C0q:G8 Tryz.prog 216=some (246,4,64):=by kernel_rfl
@[go_sem] theorem C09:G1 Tryz.prog 216=some [.nilsl]:=by kernel_rfl
@[go_sem] theorem C0h:C8 Tryz.prog 219= .slice:=by kernel_rfl
@[go_sem] theorem C0r:G8 Tryz.prog 219=some (3,1,8):=by kernel_rfl
@[go_sem] theorem C0i:C8 Tryz.prog 240= .slice:=by kernel_rfl
@[go_sem] theorem B8a:F8 Tryz.prog 240=some (false,1):=by kernel_rfl
@[go_sem] theorem C0s:G8 Tryz.prog 240=some (244,2,32):=by kernel_rfl
@[go_sem] theorem C0j:C8 Tryz.prog 242= .slice:=by kernel_rfl
@[go_sem] theorem B8b:F8 Tryz.prog 242=some (false,1):=by kernel_rfl
@[go_sem] theorem C0t:G8 Tryz.prog 242=some (194,1,4):=by kernel_rfl
@[go_sem] theorem C0k:C8 Tryz.prog 244= .struct:=by kernel_rfl
@[go_sem] theorem B8c:F8 Tryz.prog 244=some (true,2):=by kernel_rfl
@[go_sem] theorem B8L:L4 Tryz.prog 244=some [(0,false,1),(1,false,1)]:=by kernel_rfl
@[go_sem] theorem C1A:G1 Tryz.prog 244=some [.bool false,.nilsl]:=by kernel_rfl
@[go_sem] theorem C1w:A1o Tryz.prog 244=none:=by kernel_rfl
@[go_sem] theorem C0l:C8 Tryz.prog 246= .struct:=by kernel_rfl
@[go_sem] theorem B8d:F8 Tryz.prog 246=some (true,4):=by kernel_rfl
@[go_sem] theorem B8M:L4 Tryz.prog 246=some [(0,false,1),(1,true,2),(3,false,1)]:=by kernel_rfl
@[go_sem] theorem C1B:G1 Tryz.prog 246=some [.nilsl,.bool false,.nilsl,.bool false]:=by kernel_rfl
@[go_sem] theorem C1x:A1o Tryz.prog 246=none:=by kernel_rfl
@[go_sem] theorem C0m:C8 Tryz.prog 302= .slice:=by kernel_rfl
@[go_sem] theorem C0u:G8 Tryz.prog 302=some (216,1,24):=by kernel_rfl
theorem A5:Tryz.prog.follows .mixedOrders=true:=by kernel_rfl
end Go.Proofs
namespace Go.Av
section
variable {P:Program} {E:Env} {H:Heap} {K:Env→Heap→Prop} {l:List Oper} {KD:D→Heap→Prop} {ev:Operand→D} {cs:Nat→CR} {bs:Nat→Bl} {bl:Bl} {c:CR} {gs:List (Option Nat)}
def pK(P:Program)(gs:List (Option Nat))(cs:Nat→CR)(bs:Nat→Bl)(K:Env→Heap→Prop)(i:Nat)(l:List Oper)(dst:Option Nat)(E:Env):D→Heap→Prop:=fun d H=>wpP P gs cs bs K i l (E.put dst d) H
def pOp(P:Program)(c:CR)(bl:Bl)(ev:Operand→D)(H:Heap)(KD:D→Heap→Prop)(op:Op):Prop:=
 ∃e,q9 P c bl.l ev H op=some e∧A51 bl H e∧O8 P c bl.l ev H op∧∀b,e.okH b H→KD (e.val b) (e.app b H)
def A0m(P:Program)(gs:List (Option Nat))(cs:Nat→CR)(bs:Nat→Bl)(K:Env→Heap→Prop)(i:Nat)(l:List Oper)(dst:Option Nat)(op:Op)(s:Nat)(d:D)(want:Bool)(E:Env)(H:Heap):Prop:=
 (d= .tuple []∧wpP P gs cs bs K (i+1) l (E.put dst (.tuple [])) H)∨
 ∃b,d= .bool b∧(b=want→pOp P (cs i) (bs i) (Env.ev ((s,.bool want)::E)) H (pK P gs cs bs K (i+1) l dst ((s,.bool want)::E)) op)∧(b= !want→wpP P gs cs bs K (i+1) l (Env.put ((s,.bool (!want))::E) dst (.tuple [])) H)
def A8Y(P:Program)(gs:List (Option Nat))(cs:Nat→CR)(bs:Nat→Bl)(K:Env→Heap→Prop)(i:Nat)(l:List Oper)(dst:Option Nat)(op:Op)(s:Option Nat)(want:Bool)(E:Env)(H:Heap):Prop:=match s with
 |none=>wpP P gs cs bs K (i+1) l (E.put dst (.tuple [])) H
 |some s=>A0m P gs cs bs K i l dst op s (E.get s) want E H
@[go_sem] theorem C90(i:Nat):wpP P gs cs bs K i [] E H=K E H:=rfl
@[go_sem] theorem C8v(i:Nat)(dst:Option Nat)(op:Op)(ty:Nat)(pos:String)(after:Array Edge):wpP P gs cs bs K i (⟨dst,op,ty,pos,after,none⟩::l) E H=pOp P (cs i) (bs i) (Env.ev E) H (pK P gs cs bs K (i+1) l dst E) op:=rfl
@[go_sem] theorem C7z(i:Nat)(dst:Option Nat)(op:Op)(ty:Nat)(pos:String)(after:Array Edge)(j:Nat)(d:Bool):
  wpP P gs cs bs K i (⟨dst,op,ty,pos,after,some (j,d)⟩::l) E H=A8Y P gs cs bs K i l dst op (I2 gs j) d E H:=by
 rw[wpP];simp only[];unfold A1y A8Y;cases I2 gs j<;>rfl
@[go_sem] theorem B84(i:Nat)(dst:Option Nat)(op:Op)(s:Nat)(d:Bool):A8Y P gs cs bs K i l dst op (some s) d E H=A0m P gs cs bs K i l dst op s (E.get s) d E H:=rfl
theorem j7(i:Nat)(dst:Option Nat)(op:Op)(s:Nat)(b d:Bool):A0m P gs cs bs K i l dst op s (.bool b) d E H=
  ((b=d→pOp P (cs i) (bs i) (Env.ev ((s,.bool d)::E)) H (pK P gs cs bs K (i+1) l dst ((s,.bool d)::E)) op)∧(b= !d→wpP P gs cs bs K (i+1) l (Env.put ((s,.bool (!d))::E) dst (.tuple [])) H)):=by
 unfold A0m;apply propext;constructor
 ·rintro(⟨h,_⟩|⟨e,h,h1⟩)
  ·cases h
  ·cases h;exact h1
 ·exact fun h=>.inr ⟨b,rfl,h⟩
attribute [go_sem low] j7
@[go_sem high] theorem C1W(i:Nat)(dst:Option Nat)(op:Op)(s:Nat)(d:Bool):A0m P gs cs bs K i l dst op s (.tuple []) d E H=wpP P gs cs bs K (i+1) l (E.put dst (.tuple [])) H:=by
 unfold A0m;apply propext;constructor
 ·rintro(⟨_,h⟩|⟨e,h,_⟩)
  ·exact h
  ·cases h
 ·exact fun h=>.inl ⟨rfl,h⟩
@[go_sem high] theorem C5O(i:Nat)(dst:Option Nat)(op:Op)(s:Nat):A0m P gs cs bs K i l dst op s (.bool true) true E H=pOp P (cs i) (bs i) (Env.ev ((s,.bool true)::E)) H (pK P gs cs bs K (i+1) l dst ((s,.bool true)::E)) op:=by rw[j7];simp
@[go_sem high] theorem C5P(i:Nat)(dst:Option Nat)(op:Op)(s:Nat):A0m P gs cs bs K i l dst op s (.bool false) false E H=pOp P (cs i) (bs i) (Env.ev ((s,.bool false)::E)) H (pK P gs cs bs K (i+1) l dst ((s,.bool false)::E)) op:=by rw[j7];simp
@[go_sem high] theorem C5Q(i:Nat)(dst:Option Nat)(op:Op)(s:Nat):A0m P gs cs bs K i l dst op s (.bool true) false E H=wpP P gs cs bs K (i+1) l (Env.put ((s,.bool true)::E) dst (.tuple [])) H:=by rw[j7];simp
@[go_sem high] theorem C5R(i:Nat)(dst:Option Nat)(op:Op)(s:Nat):A0m P gs cs bs K i l dst op s (.bool false) true E H=wpP P gs cs bs K (i+1) l (Env.put ((s,.bool false)::E) dst (.tuple [])) H:=by rw[j7];simp
@[go_sem] theorem C8w(i:Nat)(dst:Option Nat)(d:D):pK P gs cs bs K i l dst E d H=wpP P gs cs bs K i l (E.put dst d) H:=rfl
theorem A0F{op:Op}(hc:J1 P op= .pure)(hw:D1 P ev H KD op=S2 (L0 P ev op) KD H):pOp P c bl ev H KD op=D1 P ev H KD op:=by
 rw[hw];apply propext;unfold pOp;rw[U5 hc];constructor
 ·rintro⟨e,he,_,_,hk⟩;obtain⟨d,g,rfl⟩:=D0j.1 he;have:=hk 0 trivial;refine⟨d,g,?_⟩;have e2:(val d []).app 0 H=H:=F6 H;rw[e2]at this;exact this
 ·rintro⟨d,g,hk⟩;refine⟨val d [],by rw[g];rfl,⟨by simp[val],by simp[val],by simp[val],by simp[val]⟩,?_,fun b _=>?_⟩
  ·cases op<;>try trivial
   rename_i h;obtain⟨callee,args,i⟩:=h;cases callee with
   |value f=>simp[J1]at hc
   |_=>trivial
  ·have e2:(val d []).app b H=H:=F6 H;rw[e2];exact hk
@[go_sem] theorem C8x(x:Operand):pOp P c bl ev H KD (.move x)=D1 P ev H KD (.move x):=A0F rfl rfl
@[go_sem] theorem C6a(x:Operand):pOp P c bl ev H KD (.assign x)=D1 P ev H KD (.assign x):=A0F rfl rfl
@[go_sem] theorem C8y(x y z:Operand):pOp P c bl ev H KD (.pick x y z)=D1 P ev H KD (.pick x y z):=A0F rfl rfl
@[go_sem] theorem C70(t:Nat)(ps:Array (Nat×Operand)):pOp P c bl ev H KD (.build t ps)=D1 P ev H KD (.build t ps):=A0F rfl rfl
@[go_sem] theorem C71(x:Operand):pOp P c bl ev H KD (.nilCheck x)=D1 P ev H KD (.nilCheck x):=A0F rfl rfl
@[go_sem] theorem C91(op:BinOp)(t:Nat)(x y:Operand)(d:Nat):pOp P c bl ev H KD (.binOp op t x y d)=D1 P ev H KD (.binOp op t x y d):=A0F rfl rfl
@[go_sem] theorem D0L(op:UnOp)(t:Nat)(x:Operand):pOp P c bl ev H KD (.unOp op t x)=D1 P ev H KD (.unOp op t x):=A0F rfl rfl
@[go_sem] theorem D0M(t:Nat)(x:Operand)(f:Nat):pOp P c bl ev H KD (.fieldAddr t x f)=D1 P ev H KD (.fieldAddr t x f):=A0F rfl rfl
@[go_sem] theorem D0N(t:Nat)(x i:Operand):pOp P c bl ev H KD (.indexAddr t x i)=D1 P ev H KD (.indexAddr t x i):=A0F rfl rfl
@[go_sem] theorem C72(t:Nat)(x:Operand)(lo d e:Option Operand):pOp P c bl ev H KD (.slice t x lo d e)=D1 P ev H KD (.slice t x lo d e):=A0F rfl rfl
@[go_sem] theorem C92(x:Operand)(t:Nat)(h:C8 P t≠ .map):pOp P c bl ev H KD (.call ⟨.builtin .len,#[x],#[t]⟩)=D1 P ev H KD (.call ⟨.builtin .len,#[x],#[t]⟩):=by
 have hc:J1 P (.call ⟨.builtin .len,#[x],#[t]⟩)= .pure:=by
  unfold C8 at h;cases d:P.underlying t with
  |none=>simp[J1,d]
  |some u=>cases u<;>simp[J1,d]<;>simp[d]at h
 refine A0F hc ?_;simp only[D1,hc];rfl
def B5x(bl:Bl)(H:Heap)(l:List Nat):Prop:=∀b∈l,(b∈bl.l∧H b≠none)∧b∉bl.no
@[go_sem] theorem C6b:B5x bl H []=True:=by simp[B5x]
@[go_sem high] theorem C6c(l m:List Nat)(b:Nat):B5x ⟨l,[],m⟩ H [b]=(b∈l∧H b≠none):=by simp[B5x]
@[go_sem] theorem C73(b o:Nat):rdB (.box b o)= [b]:=rfl
@[go_sem] theorem C8z(b s i o:Nat):rdB (.el b s i o)= [b]:=rfl
@[go_sem] theorem C80(cs:List D):rdB (.ro cs)= []:=rfl
@[go_sem] theorem C81(t:Nat)(x:Operand):pOp P c bl ev H KD (.load t x)=(B5x bl H (rdB (ev x))∧D1 P ev H KD (.load t x)):=by
 apply propext;unfold pOp;constructor
 ·rintro⟨e,he,g,_,hk⟩;rw[I7 (by simp[J1])]at he;simp only[I5,D0j]at he;obtain⟨d,h,rfl⟩:=he;have:=hk 0 trivial;have e2:(val d (rdB (ev x))).app 0 H=H:=F6 H;rw[e2]at this;exact⟨g.rd,d,h,this⟩
 ·rintro⟨hr,d,h,hk⟩;refine⟨val d (rdB (ev x)),by rw[I7 (by simp[J1])];simp only[I5,h,Option.map_some],⟨hr,by simp[val],by simp[val],by simp[val]⟩,trivial,fun b _=>?_⟩;have e2:(val d (rdB (ev x))).app b H=H:=F6 H;rw[e2];exact hk
theorem B1q{op:Op}{f:Nat→D}{o:Obj}(ho:o.rw=true)(hr:q9 P c bl.l ev H op=some (A0y f o))(hc:O8 P c bl.l ev H op)(h: ∀b,H b=none→KD (f b) (H.set b o)):pOp P c bl ev H KD op:=
 ⟨_,hr,⟨by simp[A0y],by simp[A0y],fun o' e=>by cases e;exact ho,by simp[A0y]⟩,hc,fun b hb=>by
  have d:H b=none:=by rcases hb with hb|hb;exact hb;simp[A0y]at hb
  have e2:(A0y f o).app b H=H.set b o:=by show (H.minus []).set b o=_;rw[F6]
  rw[e2];exact h b d⟩
theorem A26{op:Op}{f:Nat→D}{o:Obj}(hr:q9 P c bl.l ev H op=some (A0y f o))(h:pOp P c bl ev H KD op): ∀b,H b=none→KD (f b) (H.set b o):=by
 obtain⟨e,he,d,_,hk⟩:=h;rw[hr]at he;cases he;intro b hb;have:=hk b (.inl hb);have e2:(A0y f o).app b H=H.set b o:=by show (H.minus []).set b o=_;rw[F6]
 rw[e2]at this;exact this
@[go_sem] theorem C74(t:Nat):pOp P c bl ev H KD (.alloc t)=D1 P ev H KD (.alloc t):=by
 apply propext;constructor
 ·intro h;have g:=h;obtain⟨e,he,_⟩:=g;rw[I7 (by simp[J1])]at he;simp only[I5,D0j]at he;obtain⟨z,d,rfl⟩:=he;exact⟨z,d,A26 (f:=fun b=>.box b 0) (o:=.box z (A1o P t)) (by rw[I7 (by simp[J1])];simp only[I5,d,Option.map_some]) h⟩
 ·rintro⟨z,d,hk⟩;exact B1q (f:=fun b=>.box b 0) (o:=.box z (A1o P t)) rfl (by rw[I7 (by simp[J1])];simp only[I5,d,Option.map_some]) trivial hk
@[go_sem] theorem B85(t n:Nat)(ps:Array (Nat×Operand)):pOp P c bl ev H KD (.buildSlice t n ps)=D1 P ev H KD (.buildSlice t n ps):=by
 apply propext;constructor
 ·intro h;have q:=h;obtain⟨e,he,_⟩:=q;rw[I7 (by simp[J1])]at he;simp only[I5,bsE]at he;obtain⟨⟨e',sz,g⟩,i,he⟩:=D0m.1 he;split at he
  ·rename_i h1;obtain⟨z,j,he⟩:=D0m.1 he;split at he
   ·rename_i m;obtain⟨es,d,rfl⟩:=D0j.1 he;exact⟨e',sz,g,z,es,i,h1.1,h1.2,j,m,d,A26 (f:=fun b=>.vec b sz 0 n) (o:=.vec sz es) (by rw[I7 (by simp[J1])];simp only[I5,bsE,i,D04];rw[if_pos h1,j,D04,if_pos m];simp only[d,Option.map_some]) h⟩
   ·cases he
  ·cases he
 ·rintro⟨e',sz,g,z,es,i,h1,p,j,m,d,hk⟩;exact B1q (f:=fun b=>.vec b sz 0 n) (o:=.vec sz es) rfl (by rw[I7 (by simp[J1])];simp only[I5,bsE,i,D04];rw[if_pos ⟨h1,p⟩,j,D04,if_pos m];simp only[d,Option.map_some]) trivial hk
@[go_sem] theorem C1X(t:Nat)(l c':Operand):pOp P c bl ev H KD (.makeSlice t l c')=D1 P ev H KD (.makeSlice t l c'):=by
 apply propext;constructor
 ·intro h;have A:=h;obtain⟨e,he,_⟩:=A;rw[I7 (by simp[J1])]at he;simp only[I5]at he;obtain⟨e',sz,g,z,k,n,y,m,h1,i,j,p,h5,q,r,u,x,d,rfl⟩:=A5Q he;exact⟨e',sz,g,z,k,n,y,m,h1,i,j,p,h5,q,r,u,x,d,A26 (f:=fun b=>.vec b sz 0 n.toNat) (o:=.vec sz (List.replicate n.toNat z)) (by rw[I7 (by simp[J1])];exact he) h⟩
 ·rintro⟨e',sz,g,z,k,n,y,m,h1,i,j,p,h5,q,r,u,x,d,hk⟩;exact B1q (f:=fun b=>.vec b sz 0 n.toNat) (o:=.vec sz (List.replicate n.toNat z)) rfl (by rw[I7 (by simp[J1])];simp only[I5];rw[h5,q];exact C2L h1 i j p r u x d) trivial hk
def C21:D→Prop
 | .box _ _| .el _ _ _ _=>True
 |_=>False
@[go_sem] theorem C6d(b o:Nat):C21 (.box b o)=True:=rfl
@[go_sem] theorem C75(b s i o:Nat):C21 (.el b s i o)=True:=rfl
@[go_sem] theorem C76(t:Nat)(a x:Operand):pOp P c bl ev H KD (.store t a x)=(C21 (ev a)∧D1 P ev H KD (.store t a x)):=by
 apply propext;have g:q9 P c bl.l ev H (.store t a x)=q8 P t (ev a) (ev x) H:=by rw[I7 (by simp[J1])];rfl
 constructor
 ·rintro⟨e,he,y,_,hk⟩;rw[g]at he;unfold q8 at he;obtain⟨p,hs,he⟩:=D0m.1 he;have fin: ∀b,rdB (ev a)= [b]→(p b).map (fun o=>(⟨[],[b],some o,some b,fun _=>.undef⟩:Ef))=some e→D1 P ev H KD (.store t a x):=by
   intro b hb h1;obtain⟨o,ho,rfl⟩:=D0j.1 h1;obtain⟨o',q,_,j,_⟩:=A00 hs hb;rw[ho]at q;cases q;have:=hk b rfl;have e2:((⟨[],[b],some o,some b,fun _=>.undef⟩:Ef)).app b H=p:=by show (H.minus [b]).set b o=_;rw[d9,j]
   rw[e2]at this;exact⟨p,hs,this⟩
  cases d:ev a with
  |box b off=>rw[d]at he;exact⟨trivial,fin b (by rw[d];rfl) he⟩
  |el b s i off=>rw[d]at he;exact⟨trivial,fin b (by rw[d];rfl) he⟩
  |_=>rw[d]at he;simp at he
 ·rintro⟨h1,p,hs,hk⟩;have fin: ∀b,rdB (ev a)= [b]→q8 P t (ev a) (ev x) H=(p b).map (fun o=>(⟨[],[b],some o,some b,fun _=>.undef⟩:Ef))→pOp P c bl ev H KD (.store t a x):=by
   intro b hb hst;obtain⟨o,ho,u,j,r⟩:=A00 hs hb;rw[ho,Option.map_some]at hst;refine⟨_,g.trans hst,⟨by simp,fun k hk=>?_,fun o' z=>by cases z;exact u,fun k hk=>by cases hk;simp⟩,trivial,fun k m=>?_⟩
   ·simp at hk;subst hk;exact⟨(fun h=>absurd h (by simp)),r⟩
   ·have m:k=b:=m;subst m;show KD .undef ((H.minus [k]).set k o);rw[d9,←j];exact hk
  cases d:ev a with
  |box b off=>exact fin b (by rw[d];rfl) (by rw[d]at hs⊢;simp only[q8,hs,D04])
  |el b s i off=>exact fin b (by rw[d];rfl) (by rw[d]at hs⊢;simp only[q8,hs,D04])
  |_=>rw[d]at h1;exact h1.elim
def xOk(bl:Bl)(H:Heap)(l:List Nat):Prop:=(∀b∈inB bl.l l,H b≠none∧b∉bl.no)∧∀b∈T1 bl.l l,B1c (H b)=true
def C22(bl:Bl)(b:Nat):Prop:=b∉bl.l∨b∈bl.may
def paV(o:Option Obj)(bl:Bl)(xl:List Nat)(b sz n by_:Nat)(xs:List (List D))(H:Heap)(KD:D→Heap→Prop):Prop:=match o with
 |some (.vec sz' es)=>sz'=sz∧n≤es.length∧(n+xs.length)*by_≤140737488355328∧n+xs.length≤9223372036854775807∧C22 bl b∧xOk bl H xl∧
   ∀b',(H b'=none∨b'∈b::T1 bl.l xl)→KD (.vec b' sz 0 (n+xs.length)) ((H.minus (b::T1 bl.l xl)).set b' (.vec sz (es.take n++xs)))
 |_=>False
@[go_sem] theorem B20(bl:Bl)(e:List Nat)(b sz sz' n d:Nat)(es xs:List (List D)):paV (some (.vec sz' es)) bl e b sz n d xs H KD=(sz'=sz∧n≤es.length∧(n+xs.length)*d≤140737488355328∧n+xs.length≤9223372036854775807∧C22 bl b∧xOk bl H e∧
      ∀g,(H g=none∨g∈b::T1 bl.l e)→KD (.vec g sz 0 (n+xs.length)) ((H.minus (b::T1 bl.l e)).set g (.vec sz (es.take n++xs)))):=rfl
def paS(s:D)(bl:Bl)(xl:List Nat)(sz by_:Nat)(xs:List (List D))(H:Heap)(KD:D→Heap→Prop):Prop:=match s with
 | .nilsl=>xs.length*by_≤140737488355328∧xs.length≤9223372036854775807∧xs.isEmpty=false∧xOk bl H xl∧∀b,(H b=none∨b∈T1 bl.l xl)→KD (.vec b sz 0 xs.length) ((H.minus (T1 bl.l xl)).set b (.vec sz xs))
 | .vec b sz' lo n=>sz'=sz∧lo=0∧paV (H b) bl xl b sz n by_ xs H KD
 |_=>False
@[go_sem] theorem B86(bl:Bl)(e:List Nat)(sz d:Nat)(xs:List (List D)):paS .nilsl bl e sz d xs H KD=(xs.length*d≤140737488355328∧xs.length≤9223372036854775807∧xs.isEmpty=false∧xOk bl H e∧∀b,(H b=none∨b∈T1 bl.l e)→KD (.vec b sz 0 xs.length) ((H.minus (T1 bl.l e)).set b (.vec sz xs))):=rfl
@[go_sem] theorem B21(bl:Bl)(e:List Nat)(b sz sz' lo n d:Nat)(xs:List (List D)):paS (.vec b sz' lo n) bl e sz d xs H KD=(sz'=sz∧lo=0∧paV (H b) bl e b sz n d xs H KD):=rfl
def paX(o:Option (List (List D)))(s x:D)(bl:Bl)(sz by_:Nat)(H:Heap)(KD:D→Heap→Prop):Prop:=match o with
 |some xs=>paS s bl (T0 x) sz by_ xs H KD
 |none=>False
@[go_sem] theorem A98(xs:List (List D))(s x:D)(sz d:Nat):paX (some xs) s x bl sz d H KD=paS s bl (T0 x) sz d xs H KD:=rfl
def paK(P:Program)(et:Option (Nat×Nat×Nat))(bt:R3)(s x:D)(bl:Bl)(H:Heap)(KD:D→Heap→Prop):Prop:=match et with
 |some (e,sz,by_)=>0<sz∧apT bt∧apZ (G1 P e) sz∧paX (M0 H sz x) s x bl sz by_ H KD
 |none=>False
@[go_sem] theorem A99(e sz d:Nat)(g:R3)(s x:D):paK P (some (e,sz,d)) g s x bl H KD=(0<sz∧apT g∧apZ (G1 P e) sz∧paX (M0 H sz x) s x bl sz d H KD):=rfl
@[go_sem] theorem C6f(b sz lo n:Nat):T0 (.vec b sz lo n)= [b]:=rfl
@[go_sem] theorem C78(sz:Nat)(es:List (List D)):T0 (.sl sz es)= []:=rfl
@[go_sem] theorem C6g(s:ByteArray):T0 (.str s)= []:=rfl
@[go_sem] theorem C6h(k:IntKind)(n:Int):T0 (.int k n)= []:=rfl
@[go_sem] theorem C5S(b:Bool):T0 (.bool b)= []:=rfl
@[go_sem] theorem C6i(cs:List D):T0 (.agg cs)= []:=rfl
@[go_sem] theorem C6j(b o:Nat):T0 (.box b o)= [b]:=rfl
@[go_sem] theorem X1(bl:List Nat):T1 bl []= []:=rfl
theorem B0A{bl:List Nat}(b:Nat)(l:List Nat)(h:b∉bl):T1 bl (b::l)=b::T1 bl l:=by simp[T1,h]
theorem B87{bl:List Nat}(b:Nat)(l:List Nat)(h:b∈bl):T1 bl (b::l)=T1 bl l:=by simp[T1,h]
@[go_sem] theorem A8Z:xOk bl H []=True:=by simp[xOk,inB,T1]
theorem B22(b:Nat)(o:Obj)(hb:H b=some o)(hr:o.rw=true)(e:b∉bl.l∨b∉bl.no):xOk bl H [b]:=by
 refine⟨fun k hk=>?_,fun k hk=>?_⟩
 ·have d:=s8.1 hk;have:=d.1;simp at this;subst this;exact⟨by rw[hb];simp,e.resolve_left fun g=>g d.2⟩
 ·have:=(T3.1 hk).1;simp at this;subst this;rw[hb];exact hr
theorem A0G(b:Nat)(l:List Nat):H.minus (b::l)=(H.del b).minus l:=by
 funext k;unfold Heap.minus Heap.del
 by_cases h1:k=b<;>by_cases d:k∈l<;>simp[h1,d]
theorem A4v{s x:Operand}{t p:Nat}(h:paK P (G8 P t) (C8 P p) (ev s) (ev x) bl H KD):pOp P c bl ev H KD (.call ⟨.builtin .append,#[s,x],#[t,p]⟩):=by
 have j:q9 P c bl.l ev H (.call ⟨.builtin .append,#[s,x],#[t,p]⟩)=B1d P bl.l H t p (ev s) (ev x):=by rw[I7 (by simp[J1])];rfl
 unfold paK at h;split at h
 ·rename_i e sz T U;obtain⟨h1,V,q,i⟩:=h;have u:(G1 P e).map (·.length)=some sz:=by
   unfold apZ at q;split at q
   ·rename_i z W;rw[W];simp[q]
   ·exact q.elim
  unfold paX at i;split at i
  ·rename_i xs y;have d:=j;unfold B1d at d;rw[U,D04,if_pos ⟨h1,V,u⟩,y,D04]at d;have m: ∀(del:List Nat) (new:Option Obj) (f:Nat→D),xOk bl H (T0 (ev x))→(∀b∈del,C22 bl b∧B1c (H b)=true)→(∀o,new=some o→o.rw=true)→A51 bl H ⟨inB bl.l (T0 (ev x)),del,new,none,f⟩:=fun del new f hx L hn=>
    ⟨fun b hb=>⟨⟨(s8.1 hb).2,(hx.1 b hb).1⟩,(hx.1 b hb).2⟩,fun b hb=>⟨fun _=>(L b hb).1,(L b hb).2⟩,hn,fun b hb=>by cases hb⟩
   unfold paS at i;split at i
   ·rename_i hs;obtain⟨A,C,G,r,I⟩:=i;rw[hs]at d;simp only at d;rw[if_pos ⟨A,C,G⟩]at d;exact⟨_,d,m _ _ _ r (fun b hb=>⟨.inl (T3.1 hb).2,r.2 b hb⟩) (fun o ho=>by cases ho;rfl),trivial,fun b hb=>I b hb⟩
   ·rename_i b sz' lo n hs;obtain⟨A,C,h5⟩:=i;unfold paV at h5;split at h5
    ·rename_i M es hb;obtain⟨G,r,I,X,Y,O,k9⟩:=h5;rw[hs]at d;simp only[hb]at d;rw[if_pos ⟨A,G,C,r,I,X⟩]at d;refine⟨_,d,m _ _ _ O (fun J g=>?_) (fun o ho=>by cases ho;rfl),trivial,fun J g=>k9 J g⟩;rcases D02.1 g with rfl|g
     ·exact⟨Y,by rw[hb];rfl⟩
     ·exact⟨.inl (T3.1 g).2,O.2 J g⟩
    ·exact h5.elim
   ·exact i.elim
  ·exact i.elim
 ·exact h.elim
def A63:List D→List Nat:=fun l=>l.flatMap T0
@[go_sem] theorem C6k:A63 []= []:=rfl
theorem B4G(d:D)(l:List D):A63 (d::l)=T0 d++A63 l:=by simp[A63]
attribute [go_sem] B4G
def crK(c:CR)(H:Heap)(l:List Nat)(KD:D→Heap→Prop):Prop:=match c.new with
 |none=>KD (c.val 0) (H.minus l)
 |some o=>o.rw=true∧∀b,(H b=none∨b∈l)→KD (c.val b) ((H.minus l).set b o)
def pcA(P:Program)(c:CR)(bl:Bl)(f:D)(args:List D)(H:Heap)(KD:D→Heap→Prop):Prop:=match f with
 | .fn (.func g) first cap=>(∀b∈inB bl.l (A63 (first++args++cap)),H b≠none∧b∉bl.no)∧(∀b∈T1 bl.l (A63 (first++args++cap)),B1c (H b)=true)∧
   B5W P g (first++args++cap) H (A63 (first++args++cap)) (T1 bl.l (A63 (first++args++cap))) c∧crK c H (T1 bl.l (A63 (first++args++cap))) KD
 |_=>False
def pcB(P:Program)(c:CR)(bl:Bl)(g:Nat)(as_:List D)(l:List Nat)(H:Heap)(KD:D→Heap→Prop):Prop:=xOk bl H l∧B5W P g as_ H l (T1 bl.l l) c∧crK c H (T1 bl.l l) KD
@[go_sem] theorem C83(g:Nat)(first args cap:List D):pcA P c bl (.fn (.func g) first cap) args H KD=pcB P c bl g (first++args++cap) (A63 (first++args++cap)) H KD:=by
 unfold pcA pcB xOk;simp only[and_assoc]
@[go_sem] theorem C84(f:Operand)(args:List Operand)(m:Array Nat):pOp P c bl ev H KD (.call ⟨.value f,args.toArray,m⟩)=pcA P c bl (ev f) (args.map ev) H KD:=by
 have i:q9 P c bl.l ev H (.call ⟨.value f,args.toArray,m⟩)=I5 P c bl.l ev H (.call ⟨.value f,args.toArray,m⟩):=I7 (by simp[J1]);apply propext;unfold pcA;constructor
 ·rintro⟨e,he,d,hc,hk⟩;rw[i]at he;simp only[I5]at he;simp only[O8]at hc;split at he
  ·rename_i g first cap hf
   cases he
   (first|rw[hf]at hc⊢ |rw[hf]at hc)
   refine⟨fun b hb=>⟨(d.rd b hb).1.2,(d.rd b hb).2⟩,fun b hb=>(d.del b hb).2,hc,?_⟩;unfold crK;unfold Ef.okH Ef.app at hk;cases hn:c.new with
   |none=>simp only[hn,CR.f]at hk⊢;exact hk 0 trivial
   |some o=>
    simp only[hn,CR.f]at hk⊢;exact⟨d.new o hn,fun b hb=>hk b hb⟩
  ·cases he
 ·intro h;split at h
  ·rename_i g first cap hf
   obtain⟨h1,p,q,j⟩:=h;refine⟨⟨inB bl.l ((first++args.map ev++cap).flatMap T0),T1 bl.l ((first++args.map ev++cap).flatMap T0),c.new,none,c.f⟩,?_,⟨fun b hb=>⟨⟨(s8.1 hb).2,(h1 b hb).1⟩,(h1 b hb).2⟩,fun b hb=>⟨fun _=>.inl (T3.1 hb).2,p b hb⟩,fun o ho=>?_,by simp⟩,?_,fun b hb=>?_⟩
   ·rw[i];simp only[I5,hf]
   ·unfold crK at j;simp only at ho;rw[ho]at j;exact j.1
   ·simp only[O8,hf];exact q
   ·unfold crK at j;unfold Ef.okH at hb;unfold Ef.app;cases hn:c.new with
    |none=>simp only[hn,CR.f]at j⊢;exact j
    |some o=>
     simp only[hn,CR.f]at j hb⊢;exact j.2 b hb
  ·exact h.elim
theorem R2{g:Nat}{d:List D}{c:D}(h: ∀(H':Heap) (Q:D→Heap→Prop),(∀k cs,H k=some (.ro cs)→H' k=some (.ro cs))→Q c H'→ACalls P g d H' Q)(hk:KD c H):pcB P (.c c) bl g d [] H KD:=
 ⟨by rw[A8Z];trivial,fun H' hro _=>h H' _ hro ⟨rfl,by rw[X1,F6];exact D11 H'⟩,by rw[X1];show KD c (H.minus []);rw[F6];exact hk⟩
theorem pc1{g b:Nat}{d:List D}{c:D}{o:Obj}(hb:H b=some o)(hr:o.rw=true)(hn:b∉bl.l)(h: ∀(H':Heap) (Q:D→Heap→Prop),(∀k cs,H k=some (.ro cs)→H' k=some (.ro cs))→H' b=some o→Q c (H'.del b)→ACalls P g d H' Q)(hk:KD c (H.del b)):pcB P (.c c) bl g d [b] H KD:=by
 have e:T1 bl.l [b]= [b]:=by rw[B0A b [] hn,X1]
 have e2: ∀H:Heap,H.minus [b]=H.del b:=fun H=>by rw[A0G,F6]
 exact⟨B22 b o hb hr (.inl hn),fun H' hro i=>h H' _ hro (by rw[i b (by simp),hb]) ⟨rfl,by rw[e,e2];exact D11 _⟩,by rw[e];show KD c (H.minus [b]);rw[e2];exact hk⟩
theorem pcm{g:Nat}{d:List D}{f:Nat→D}{o:Obj}(ho:o.rw=true)(h: ∀(H':Heap) (Q:D→Heap→Prop),(∀k cs,H k=some (.ro cs)→H' k=some (.ro cs))→(∀b,H' b=none→Q (f b) (H'.set b o))→ACalls P g d H' Q)(hk: ∀b,H b=none→KD (f b) (H.set b o)):pcB P (.mk' f o) bl g d [] H KD:=by
 refine⟨by rw[A8Z];trivial,fun H' hro _=>h H' _ hro fun b hb=>?_,?_⟩
 ·exact⟨b,.inl hb,rfl,by rw[X1,F6];exact D11 _⟩
 ·rw[X1];refine⟨ho,fun b hb=>?_⟩;rw[F6];exact hk b (hb.resolve_right (by simp))
theorem C24{bl:List Nat}(b:Nat)(h:b∈bl):inB bl [b]= [b]:=by simp[inB,h]
theorem C85{g b:Nat}{d:List D}{f:Nat→D}{o o':Obj}(hb:H b=some o)(hl:b∈bl.l)(hn:b∉bl.no)(ho:o'.rw=true)(h: ∀(H':Heap) (Q:D→Heap→Prop),(∀k cs,H k=some (.ro cs)→H' k=some (.ro cs))→H' b=some o→(∀v,H' v=none→Q (f v) (H'.set v o'))→ACalls P g d H' Q)(hk: ∀v,H v=none→KD (f v) (H.set v o')):pcB P (.mk' f o') bl g d [b] H KD:=by
 have e:T1 bl.l [b]= []:=by rw[B87 b [] hl,X1]
 refine⟨⟨fun k hk=>?_,fun k hk=>?_⟩,fun H' hro i=>h H' _ hro (by rw[i b (by simp),hb]) fun v hv=>?_,?_⟩
 ·rw[C24 b hl]at hk;simp at hk;subst hk;exact⟨by rw[hb];simp,hn⟩
 ·rw[e]at hk;cases hk
 ·exact⟨v,.inl hv,rfl,by rw[e,F6];exact D11 _⟩
 ·rw[e];refine⟨ho,fun v hv=>?_⟩;rw[F6];exact hk v (hv.resolve_right (by simp))
end
def H6(sz n:Nat):Option Nat→D
 |none=>.nilsl
 |some c=>.vec c sz 0 n
def K1(H:Heap):Option Nat→Heap
 |none=>H
 |some c=>H.del c
def putB(H:Heap)(sz:Nat)(es:List (List D)):Option Nat→Heap
 |none=>H
 |some c=>H.set c (.vec sz es)
def OutAt(H:Heap)(sz:Nat)(es:List (List D)):Option Nat→Prop
 |none=>es= []
 |some c=>H c=some (.vec sz es)
theorem E3{H:Heap}{b:Nat}{o:Obj}(h:H b=none):(H.set b o).del b=H:=by
 funext k
 unfold Heap.del Heap.set;by_cases hk:k=b
 ·subst hk;simp[h]
 ·simp[hk]
theorem B88(H:Heap)(ob:Option Nat):(K1 H ob).Le H:=by
 cases ob with
 |none=>exact D11 H
 |some c=>exact E6 H c
@[go_sem] theorem C5T(sz n:Nat)(ob:Option Nat):(H6 sz n ob).cells= [H6 sz n ob]:=by cases ob<;>rfl
@[go_sem] theorem C6m(sz n:Nat):H6 sz n none= .nilsl:=rfl
@[go_sem] theorem L1(sz n c:Nat):H6 sz n (some c)= .vec c sz 0 n:=rfl
theorem B23{P:Program}{t sz n:Nat}{ob:Option Nat}(h:ob=none→n=0):A5j P t (H6 sz n ob)=if C8 P t= .slice then some (.int .i64 n)else none:=by
 cases ob with
 |none=>rw[h rfl];rfl
 |some c=>rfl
section
variable {P:Program} {H:Heap} {KD:D→Heap→Prop}
theorem A5T{sz d n:Nat}{ob:Option Nat}(es:List (List D)){xs:List (List D)}(g:xs≠[])(hn:n=es.length)(hc:OutAt H sz es ob)(h1:(n+xs.length)*d≤140737488355328)(i:n+xs.length≤9223372036854775807)
  (h: ∀b',K1 H ob b'=none→KD (.vec b' sz 0 (n+xs.length)) ((K1 H ob).set b' (.vec sz (es++xs)))):apS (H6 sz n ob) sz d xs H KD:=by
 cases ob with
 |none=>
  have e:es= []:=hc;subst e;subst hn;simp only[D0h,Nat.zero_add,D1m,K1]at h1 i h;exact⟨h1,i,fun e=>absurd e g,fun _ b hb=>h b hb⟩
 |some c=>
  have e:H c=some (.vec sz es):=hc;subst hn;refine⟨rfl,.inl ⟨rfl,?_⟩⟩;rw[e];refine⟨rfl,D0u _,h1,i,fun b hb=>?_⟩;rw[D0p (D0u _)];exact h b hb
theorem ACalls.out{f n:Nat}{sz:Nat}{es:List (List D)}{ob:Option Nat}{ds:List D}{Q:D→Heap→Prop}(hn:n=es.length)(hc:OutAt H sz es ob)(h:ACalls P f (.sl sz es::ds) (K1 H ob) Q):ACalls P f (H6 sz n ob::ds) H Q:=by
 subst hn;cases ob with
 |none=>
  have e:es= []:=hc;subst e;refine ACalls.shift (args':=.sl sz []::ds) (fun w vs h1 g m=>⟨by simpa using h1,fun i d j=>?_,m,fun _ hn=>hn⟩) h;cases i with
  |zero=>simp at j;subst j;exact(g 0 _ rfl).nil_sl sz
  |succ i=>exact g (i+1) d (by simpa using j)
 |some c=>
  refine ACalls.freeze (args':=.sl sz es::ds) hc (by simp) (fun i d d' h1 g=>?_) h;cases i with
  |zero=>simp[H6]at h1 g;subst h1;subst g;exact .all
  |succ i=>simp at h1 g;rw[h1]at g;cases g;exact .same _
theorem V4{f b n sz:Nat}{es:List (List D)}{ds:List D}{Q:D→Heap→Prop}(hb:H b=some (.vec sz es))(hn:n=es.length)(h:ACalls P f (.sl sz es::ds) (H.del b) Q):ACalls P f (.vec b sz 0 n::ds) H Q:=
 ACalls.out (ob:=some b) hn hb h
theorem A0h{f b n sz:Nat}{es:List (List D)}{a:D}{ds:List D}{Q:D→Heap→Prop}(hb:H b=some (.vec sz es))(hn:n=es.length)(h:ACalls P f (a:: .sl sz es::ds) (H.del b) Q):ACalls P f (a:: .vec b sz 0 n::ds) H Q:=by
 subst hn;refine ACalls.freeze (args':=a:: .sl sz es::ds) hb (by simp) (fun i d d' h1 e=>?_) h
 match i with
 |0=>simp at h1 e;subst h1;subst e;exact .same _
 |1=>simp at h1 e;subst h1;subst e;exact .all
 |i+2=>simp at h1 e;rw[h1]at e;cases e;exact .same _
theorem Fin.out{n sz:Nat}{es:List (List D)}{ob:Option Nat}{Q:D→Heap→Prop}(hn:n=es.length)(hc:OutAt H sz es ob)(h:Fin Q (.sl sz es) (K1 H ob)):Fin Q (H6 sz n ob) H:=by
 subst hn;cases ob with
 |none=>
  have e:es= []:=hc;subst e;unfold Fin at h⊢;obtain⟨d,e,h1,g⟩:=h;exact⟨d,e,Shift.trans (fun w v hr hs=>⟨by cases hr;exact .sl0 _ _ _,hs,fun _ hn=>hn⟩) h1,g⟩
 |some c=>exact Fin.freeze hc .all h
theorem A6x{n sz:Nat}{es:List (List D)}{ob:Option Nat}{ds:List D}{Q:D→Heap→Prop}(hn:n=es.length)(hc:OutAt H sz es ob)(h:Fin Q (.tuple (.sl sz es::ds)) (K1 H ob)):Fin Q (.tuple (H6 sz n ob::ds)) H:=by
 cases ob with
 |none=>
  have e:es= []:=hc;subst e;exact Fin.nilsl sz ds h
 |some c=>exact B2e hc hn h
end
theorem B4H{H:Heap}{sz:Nat}{es:List (List D)}{ob:Option Nat}(h:ob=none→es= []):OutAt (putB H sz es ob) sz es ob:=by
 cases ob with
 |none=>exact h rfl
 |some c=>simp[OutAt,putB,Heap.set]
def Rw{α :Type}(f: α →List D)(l:List α):List (List D):=l.map f
section
variable {α :Type} {f: α →List D}
@[go_sem] theorem D5(l:List α):(Rw f l).length=l.length:=by simp[Rw]
theorem A8(l:List α)(k:Nat)(h:k<l.length):(Rw f l).getD k []=f l[k]:=by simp[Rw,h]
theorem B4(l:List α)(k:Nat)(h:k<l.length):(Rw f l)[k]? =some (f l[k]):=by simp[Rw,h]
theorem t7(l:List α)(k:Nat):(Rw f l).take k=Rw f (l.take k):=by simp[Rw]
theorem A1V(l:List α)(k:Nat):(Rw f l).drop k=Rw f (l.drop k):=by simp[Rw]
theorem O4(l m:List α):Rw f l++Rw f m=Rw f (l++m):=by simp[Rw]
theorem A0n:Rw f []= []:=rfl
theorem Z6(l:List α)(k:Nat)(x: α)(c:List D)(h:f x=c):(Rw f l).set k c=Rw f (l.set k x):=by subst h;simp[Rw,List.map_set]
theorem A6A(n:Nat)(x: α)(c:List D)(h:f x=c):List.replicate n c=Rw f (List.replicate n x):=by subst h;simp[Rw]
end
def F3(s:ByteArray):List D:=[.str s]
@[go_sem] theorem C86(s:ByteArray):F3 s= [.str s]:=rfl
def OutIn(H:Heap)(sz:Nat)(es:List (List D))(ob:Option Nat)(Hc:Heap):Prop:=H.Le Hc∧OutAt Hc sz es ob∧∀b,ob=some b→H b=none
theorem OutIn.set{H:Heap}{sz:Nat}{es:List (List D)}{ob:Option Nat}{d:Heap}(h:OutIn H sz es ob d){b:Nat}(hb:d b=none)(o:Obj):OutIn H sz es ob (d.set b o):=by
 refine⟨h.1.trans (A0 hb),?_,h.2.2⟩;cases ob with
 |none=>exact h.2.1
 |some c=>
  have hc:d c=some (.vec sz es):=h.2.1;show (d.set b o) c=_;rw[A4 o (by rintro rfl;rw[hb]at hc;cases hc)];exact hc
theorem OutIn.le{H:Heap}{sz:Nat}{es:List (List D)}{ob:Option Nat}{d:Heap}(h:OutIn H sz es ob d):H.Le (K1 d ob):=by
 cases ob with
 |none=>exact h.1
 |some c=>
  intro k x hk;show (d.del c) k=_;rw[F1 (by rintro rfl;rw[h.2.2 _ rfl]at hk;cases hk)];exact h.1 k x hk
theorem OutIn.new{H:Heap}{sz:Nat}{es:List (List D)}{ob:Option Nat}{d:Heap}(h:OutIn H sz es ob d){b:Nat}(hb:K1 d ob b=none):H b=none:=h.le.none hb
theorem OutIn.step{H:Heap}{sz:Nat}{es:List (List D)}{ob:Option Nat}{d:Heap}(h:OutIn H sz es ob d){b:Nat}(o:Obj):(H.set b o).Le ((K1 d ob).set b o):=by
 intro k x hk;unfold Heap.set at hk⊢;split
 ·rename_i e;rw[if_pos e]at hk;exact hk
 ·rename_i e;rw[if_neg e]at hk;exact h.le k x hk
theorem C6n{P:Program}{H g:Heap}{j:D→Heap→Prop}{sz d n:Nat}{ob:Option Nat}{es:List (List D)}{xs:List (List D)}(m:OutIn H sz es ob g)(i:xs≠[])(hn:n=es.length)(h1:(n+xs.length)*d≤140737488355328)(o:n+xs.length≤9223372036854775807)
  (h: ∀b',H b'=none→K1 g ob b'=none→j (.vec b' sz 0 (n+xs.length)) ((K1 g ob).set b' (.vec sz (es++xs)))):apS (H6 sz n ob) sz d xs g j:=
 A5T es i hn m.2.1 h1 o fun b' e=>h b' (m.new e) e
end Go.Av
namespace Go.Lin
open Go Go.Av
def F0:List Nat→Nat
 | []=>0
 |d::l=>d+4294967296*F0 l
def B9(n:Nat):List Nat:=if h:n=0 then []else n % 4294967296::B9 (n / 4294967296)
termination_by n
decreasing_by exact Nat.div_lt_self (Nat.pos_of_ne_zero h) (by decide)
def F4(d:Nat):List D:=[.int .u32 d]
@[go_sem] theorem C87(n:Nat):F4 n= [.int .u32 n]:=rfl
abbrev Y5(n:Nat):D:=.sl 1 (Rw F4 (B9 n))
def Dig(l:List Nat):Prop:=∀d∈l,d<4294967296
theorem J8:B9 0= []:=by unfold B9;simp
theorem A0H{n:Nat}(h:n≠0):B9 n=n % 4294967296::B9 (n / 4294967296):=by rw[B9];simp[h]
theorem P6(n:Nat):Dig (B9 n):=by
 induction n using Nat.strongRecOn with
 |ind n g=>
  intro d e;by_cases h:n=0
  ·subst h;rw[J8]at e;cases e
  ·rw[A0H h]at e;rcases D02.1 e with rfl|e
   ·exact Nat.mod_lt _ (by decide)
   ·exact g (n / 4294967296) (Nat.div_lt_self (Nat.pos_of_ne_zero h) (by decide)) d e
theorem K5(n:Nat):F0 (B9 n)=n:=by
 induction n using Nat.strongRecOn with
 |ind n d=>
  by_cases h:n=0
  ·subst h;rw[J8];rfl
  ·rw[A0H h,F0,d _ (Nat.div_lt_self (Nat.pos_of_ne_zero h) (by decide))];exact Nat.mod_add_div n 4294967296
theorem j8(l m:List Nat):F0 (l++m)=F0 l+4294967296 ^ l.length*F0 m:=by
 induction l with
 |nil=>simp[F0]
 |cons d l e=>
  rw[D1l,F0,e,F0,D0f,Nat.pow_succ,Nat.mul_add,Nat.mul_comm (4294967296 ^ l.length) 4294967296,Nat.mul_assoc,Nat.add_assoc]
theorem y0(l:List Nat)(d:Nat):F0 (l++[d])=F0 l+4294967296 ^ l.length*d:=by rw[j8];simp[F0]
theorem H8(l:List Nat)(i:Nat)(h:i<l.length):F0 (l.take (i+1))=F0 (l.take i)+4294967296 ^ i*l[i]:=by
 rw[D0t h,y0,D1I,Nat.min_eq_left (by omega)]
theorem A2Y(l:List Nat)(i:Nat)(h:i<l.length):F0 (l.drop i)=l[i]+4294967296*F0 (l.drop (i+1)):=by
 rw[D05 h,F0]
theorem B1r(n:Nat):F0 (List.replicate n 0)=0:=by
 induction n with
 |zero=>rfl
 |succ n d=>rw[List.replicate_succ,F0,d]
theorem A8a{l:List Nat}(h:Dig l):F0 l<4294967296 ^ l.length:=by
 induction l with
 |nil=>simp[F0]
 |cons d l e=>
  have h1:=h d (D0l ..);have g:=e (fun x hx=>h x (D0s _ hx));rw[F0,D0f,Nat.pow_succ]
  calc d+4294967296*F0 l<4294967296+4294967296*F0 l:=by omega
   _=4294967296*(F0 l+1):=by rw[Nat.mul_add];omega
   _≤4294967296*4294967296 ^ l.length:=Nat.mul_le_mul_left _ g
   _=4294967296 ^ l.length*4294967296:=Nat.mul_comm _ _
theorem B89{l:List Nat}(h:Dig l)(hl: ∀(hn:l≠[]),l.getLast hn≠0):B9 (F0 l)=l:=by
 induction l with
 |nil=>rw[F0,J8]
 |cons d l m=>
  have h1:d<4294967296:=h d (D0l ..);have i:=m (fun x hx=>h x (D0s _ hx)) (fun hn=>by
   have:=hl (List.cons_ne_nil _ _);rwa [List.getLast_cons hn]at this)
  have j:F0 (d::l)≠0:=by
   rw[F0];cases l with
   |nil=>
    have:=hl (List.cons_ne_nil _ _);simp at this;simp[F0,this]
   |cons e l=>
    intro p;have o:F0 (e::l)=0:=by
     have:4294967296*F0 (e::l)=0:=by omega
     rcases Nat.mul_eq_zero.1 this with g|g
     ·exact absurd g (by decide)
     ·exact g
    rw[o,J8]at i;cases i
  rw[A0H j];have e1:F0 (d::l) % 4294967296=d:=by rw[F0,Nat.add_mul_mod_self_left];exact D1b h1
  have e2:F0 (d::l) / 4294967296=F0 l:=by rw[F0,Nat.add_mul_div_left _ _ (by decide),Nat.div_eq_of_lt h1,Nat.zero_add]
  rw[e1,e2,i]
theorem B4I(n:Nat): ∀(hn:B9 n≠[]),(B9 n).getLast hn≠0:=by
 induction n using Nat.strongRecOn with
 |ind n j=>
  intro hn;by_cases h:n=0
  ·subst h;rw[J8]at hn;exact absurd rfl hn
  ·have e:=A0H h;by_cases i:n / 4294967296=0
   ·have e2:B9 n= [n % 4294967296]:=by rw[e,i,J8]
    have:n % 4294967296=n:=D1b (by rcases Nat.div_eq_zero_iff.1 i with g|g;exact absurd g (by decide);exact g);simp only[e2,List.getLast_singleton,this];exact h
   ·have d:B9 (n / 4294967296)≠[]:=by rw[A0H i];exact List.cons_ne_nil _ _
    have g:=j (n / 4294967296) (Nat.div_lt_self (Nat.pos_of_ne_zero h) (by decide)) d;have e3:(B9 n).getLast hn=(n % 4294967296::B9 (n / 4294967296)).getLast (List.cons_ne_nil _ _):=by congr 1
    rw[e3,List.getLast_cons d];exact g
theorem B9A{l m:List Nat}{x:Nat}(e:l=m++[x])(h:l≠[]):l.getLast h=x:=by subst e;simp
def A0I:List Nat→Nat→Nat
 |_,0=>0
 |l,n+1=>if l.getD n 0=0 then A0I l n else n+1
theorem B0B(l:List Nat)(n:Nat):A0I l n≤n:=by
 induction n with
 |zero=>exact D0u _
 |succ n d=>unfold A0I;split;omega;exact D0u _
theorem A6B{l:List Nat}(h:Dig l): ∀n,n≤l.length→l.take (A0I l n)=B9 (F0 (l.take n))
 |0,_=>by simp[A0I,F0,J8]
 |n+1,hn=>by
  have hl:n<l.length:=by omega
  have i:l.getD n 0=l[n]:=by simp[hl]
  unfold A0I;rw[i];split
  ·rename_i e;rw[A6B h n (by omega),H8 l n hl,e,Nat.mul_zero,Nat.add_zero]
  ·rename_i e;refine(B89 (fun d j=>h d (List.mem_of_mem_take j)) fun g=>?_).symm;rw[B9A (D0t hl) g];exact e
theorem B0C{l:List Nat}(h:Dig l):l.take (A0I l l.length)=B9 (F0 l):=by
 have:=A6B h l.length (D0u _);rwa [List.take_length]at this
theorem B0D(n k:Nat)(h:n<4294967296 ^ k):(B9 n).length≤k:=by
  induction k generalizing n with
  | zero => have:n=0:=by simpa using h
            subst this;rw[J8];exact D0u _
  |succ k e=>
    by_cases d:n=0
    · subst d;rw[J8];exact D0v _
    · rw[A0H d,D0f]
      have:=e (n / 4294967296) (Nat.div_lt_of_lt_mul (by rw[Nat.pow_succ,Nat.mul_comm]at h;exact h));omega
theorem I9(n:Nat):(B9 n).length=0↔n=0:=by
 constructor
 ·intro h;have:=K5 n;rw[D0y h]at this;exact this.symm
 ·rintro rfl;rw[J8];rfl
theorem A3a{n:Nat}(h:n<4294967296)(d:n≠0):B9 n= [n]:=by
 rw[A0H d,D1b h,Nat.div_eq_of_lt h,J8]
theorem A0b{a b:Nat}(h:(B9 a).length<(B9 b).length):a<b:=by
 by_cases hb:b=0
 ·subst hb;rw[J8]at h;simp at h
 ·have h1:a<4294967296 ^ (B9 a).length:=by have:=A8a (P6 a);rwa [K5]at this
  have d:B9 b≠[]:=by intro e;rw[e]at h;simp at h
  have i:4294967296 ^ ((B9 b).length-1)≤b:=by
   have e:=List.dropLast_concat_getLast d;have g:=K5 b;rw[←e,y0]at g;have l:=B4I b d;have:4294967296 ^ (B9 b).dropLast.length*1≤4294967296 ^ (B9 b).dropLast.length*(B9 b).getLast d:=Nat.mul_le_mul_left _ (by omega);rw[List.length_dropLast]at this;rw[List.length_dropLast]at g;omega
  exact D1W h1 (D1g (Nat.pow_le_pow_right (by decide) (by omega)) i)
theorem B4J{a b:Nat}(h:a≤b):(B9 a).length≤(B9 b).length:=by
 by_cases g:(B9 b).length<(B9 a).length
 ·have:=A0b g;omega
 ·omega
theorem B0E{l m:List Nat}(hl:Dig l)(hm:Dig m)(he:l.length=m.length){i:Nat}(g:i<l.length)(e:l.drop (i+1)=m.drop (i+1)):l[i]<m[i]'(by omega)→F0 l<F0 m:=fun h=>by
 have e1:F0 l=F0 (l.take i)+4294967296 ^ i*(l[i]+4294967296*F0 (l.drop (i+1))):=by
  conv=>lhs;rw[←D1L i l,j8,A2Y l i g,D1I,Nat.min_eq_left (by omega)]
 have e2:F0 m=F0 (m.take i)+4294967296 ^ i*(m[i]+4294967296*F0 (m.drop (i+1))):=by
  conv=>lhs;rw[←D1L i m,j8,A2Y m i (by omega),D1I,Nat.min_eq_left (by omega)]
 have j:=A8a (l:=l.take i) (fun d e=>hl d (List.mem_of_mem_take e));rw[D1I,Nat.min_eq_left (by omega)]at j;rw[e1,e2,e]
 calc F0 (l.take i)+4294967296 ^ i*(l[i]+4294967296*F0 (m.drop (i+1)))<4294967296 ^ i+4294967296 ^ i*(l[i]+4294967296*F0 (m.drop (i+1))):=by omega
  _=4294967296 ^ i*(l[i]+1+4294967296*F0 (m.drop (i+1))):=by rw[Nat.mul_add,Nat.mul_add,Nat.mul_add];omega
  _≤4294967296 ^ i*(m[i]+4294967296*F0 (m.drop (i+1))):=Nat.mul_le_mul_left _ (by omega)
  _≤_:=Nat.le_add_left _ _
theorem A1W(L:List Nat)(s:Nat):F0 (L++[s % 4294967296])+4294967296 ^ (L.length+1)*(s / 4294967296)=F0 L+4294967296 ^ L.length*s:=by
 rw[y0,Nat.pow_succ,Nat.add_assoc,Nat.mul_assoc,←Nat.mul_add,Nat.mod_add_div]
theorem A4w(L:List Nat)(s:Int):(F0 (L++[(s % (4294967296:Int)).toNat]):Int)+(4294967296:Int) ^ (L.length+1)*(s / (4294967296:Int))=F0 L+(4294967296:Int) ^ L.length*s:=by
 have d:0≤s % (4294967296:Int):=Int.emod_nonneg _ (by decide);have h1:((s % (4294967296:Int)).toNat:Int)=s % (4294967296:Int):=Int.toNat_of_nonneg d;have e:(((4294967296:Nat) ^ L.length:Nat):Int)=(4294967296:Int) ^ L.length:=Int.natCast_pow _ _;rw[y0,Int.natCast_add,Int.natCast_mul,h1,e,Int.pow_succ,Int.add_assoc,Int.mul_assoc,←Int.mul_add,Int.emod_add_mul_ediv]
theorem B0F(l:List Nat)(p d:Nat)(h:p<l.length):F0 (l.set p d)+4294967296 ^ p*l[p]=F0 l+4294967296 ^ p*d:=by
 have e1:l.set p d=l.take p++d::l.drop (p+1):=by rw[List.set_eq_take_append_cons_drop,if_pos h]
 have e2:F0 l=F0 (l.take p)+4294967296 ^ p*(l[p]+4294967296*F0 (l.drop (p+1))):=by
  conv=>lhs;rw[←D1L p l,j8,A2Y l p h,D1I,Nat.min_eq_left (by omega)]
 rw[e1,j8,F0,D1I,Nat.min_eq_left (by omega),e2,Nat.mul_add,Nat.mul_add];omega
theorem B24{l:List Nat}(h:Dig l){p d:Nat}(e:d<4294967296):Dig (l.set p d):=fun x hx=>by
 rcases List.mem_or_eq_of_mem_set hx with g|rfl
 ·exact h x g
 ·exact e
theorem j9{l:List Nat}(h:Dig l){d:Nat}(e:d<4294967296):Dig (l++[d]):=fun x hx=>by
 rcases D00.1 hx with g|g
 ·exact h x g
 ·rw[D01]at g;rw[g];exact e
theorem J9{l:List Nat}(h:Dig l){i:Nat}(d:i<l.length):l[i]<4294967296:=h _ (D0o d)
theorem B4K(n:Nat):Dig (List.replicate n 0):=fun x hx=>by rw[(List.mem_replicate.1 hx).2];decide
def T4(L:List Nat)(n:Nat):List Nat:=L++List.replicate (n-L.length) 0
theorem A6C(L:List Nat)(n:Nat)(h:L.length≤n):(T4 L n).length=n:=by simp[T4];omega
theorem l4(L:List Nat)(n d:Nat)(h:L.length<n):(T4 L n).set L.length d=T4 (L++[d]) n:=by
 unfold T4;rw[List.set_append_right _ _ (D0u _),Nat.sub_self,D0g,D0i];have e:n-L.length=(n-(L.length+1))+1:=by omega
 rw[e,List.replicate_succ,List.set_cons_zero,D1O];rfl
theorem A6D(n:Nat):T4 [] n=List.replicate n 0:=by simp[T4]
theorem A4P(L:List Nat)(n:Nat)(h:L.length=n):T4 L n=L:=by simp[T4,h]
def A3b(L:List Nat)(n:Nat):List Nat:=List.replicate (n-L.length) 0++L
theorem B5z(L:List Nat)(n:Nat)(h:L.length≤n):(A3b L n).length=n:=by simp[A3b];omega
theorem B50(L:List Nat)(n d k:Nat)(h:L.length+k+1=n):(A3b L n).set k d=A3b (d::L) n:=by
 unfold A3b;have e:n-L.length=k+1:=by omega
 have e2:n-(d::L).length=k:=by simp;omega
 rw[e,e2,List.replicate_succ',D1O,List.set_append_right _ _ (by simp)];simp
theorem B51(n:Nat):A3b [] n=List.replicate n 0:=by simp[A3b]
theorem B4L(L:List Nat)(n:Nat)(h:L.length=n):A3b L n=L:=by simp[A3b,h]
theorem B52{b r V A x:Nat}(hb:0<b)(h:V*b+r=A):((r*4294967296+x) / b+4294967296*V)*b+(r*4294967296+x) % b=x+4294967296*A:=by
 have e:=Nat.div_add_mod (r*4294967296+x) b;have e1:(r*4294967296+x) / b*b=b*((r*4294967296+x) / b):=Nat.mul_comm _ _;have e2:4294967296*A=4294967296*V*b+4294967296*r:=by rw[←h,Nat.mul_add,Nat.mul_assoc]
 have e3:r*4294967296=4294967296*r:=Nat.mul_comm _ _;rw[Nat.add_mul,e2];omega
theorem B9B{b r V A:Nat}(hb:r<b)(h:V*b+r=A):A / b=V∧A % b=r:=by
 subst h;constructor
 ·rw[Nat.mul_comm,Nat.mul_add_div (by omega),Nat.div_eq_of_lt hb,Nat.add_zero]
 ·rw[Nat.mul_comm,Nat.mul_add_mod,D1b hb]
theorem B53(l:List Nat)(p i j s x y c T A:Nat)(h:p<l.length)(hp:p=i+j)(hv:F0 l+4294967296 ^ p*c=T+4294967296 ^ i*x*A)(hs:s=c+(x*y+l[p])):
  F0 (l.set p (s % 4294967296))+4294967296 ^ (p+1)*(s / 4294967296)=T+4294967296 ^ i*x*(A+4294967296 ^ j*y):=by
 have e1:=B0F l p (s % 4294967296) h;have e2:4294967296 ^ (p+1)*(s / 4294967296)=4294967296 ^ p*(4294967296*(s / 4294967296)):=by rw[Nat.pow_succ,Nat.mul_assoc]
 have e3:4294967296 ^ p*(s % 4294967296)+4294967296 ^ p*(4294967296*(s / 4294967296))=4294967296 ^ p*c+4294967296 ^ p*(x*y)+4294967296 ^ p*l[p]:=by
  rw[←Nat.mul_add,Nat.mod_add_div,hs,Nat.mul_add,Nat.mul_add,Nat.add_assoc]
 have d:4294967296 ^ i*x*(4294967296 ^ j*y)=4294967296 ^ p*(x*y):=by
  rw[hp,Nat.pow_add];simp only[Nat.mul_assoc,Nat.mul_left_comm,Nat.mul_comm]
 rw[Nat.mul_add,d,e2];omega
theorem B9C(l:List Nat)(p c T X:Nat)(h:p<l.length)(d:l[p]=0)(hv:F0 l+4294967296 ^ p*c=T+X):F0 (l.set p c)=T+X:=by
 have e1:=B0F l p c h;rw[d,Nat.mul_zero]at e1;omega
theorem C25{x y o c:Nat}(hx:x<4294967296)(d:y<4294967296)(ho:o<4294967296)(hc:c<4294967296):c+(x*y+o)<18446744073709551616∧x*y<18446744073709551616:=by
 have:=Nat.mul_le_mul (show x≤4294967295 by omega) (show y≤4294967295 by omega);constructor<;>omega
end Go.Lin
namespace Go.Lexs
open Go.Av
def Q1(c:Int):Bool:=decide (48≤c)&&decide (c≤57)
def B25(c:Int):Bool:=(decide (97≤c)&&decide (c≤122))||(decide (65≤c)&&decide (c≤90))
def B26(c:Int):Bool:=B25 c||Q1 c||decide (c=95)
def C6o(c:Int):Bool:=decide (32≤c)&&decide (c≤126)&&decide (c≠34)&&decide (c≠92)
def C26(c:Int):Bool:=decide (c=32)||decide (c=9)||decide (c=10)||decide (c=13)
theorem U4(c:Int):Q1 c=true↔48≤c∧c≤57:=by simp[Q1]
def ofB(p:Int→Bool)(c:UInt8):Bool:=p (c.toNat:Int)
def C27(l:List UInt8):Bool:=l.all (ofB C6o)&&decide (l.length≤200)
theorem i6(p:Int→Bool)(l:List UInt8)(k:Nat)(hk:k<l.length):(l.take (k+1)).all (ofB p)=((l.take k).all (ofB p)&&p (V8 l k)):=by
 rw[D0t hk,D1e];simp[hk,ofB,V8]
theorem t8(p:Int→Bool)(l:List UInt8)(k:Nat)(hk:k<l.length)(h:p (V8 l k)=false):l.all (ofB p)=false:=by
 rw[List.all_eq_false];exact⟨l[k],D0o hk,by simpa [hk,ofB,V8]using h⟩
def adv(p:Int×Int)(c:UInt8):Int×Int:=if c.toNat=10 then(p.1+1,1)else(p.1,p.2+1)
def place(l:List UInt8)(i:Nat):Int×Int:=(l.take i).foldl adv (1,1)
def A8b:List UInt8→Nat
 | []=>0
 |c::r=>if c.toNat=10 then 0 else A8b r+1
def B9D(l:List UInt8):Bool:=List.isPrefixOf [47,47] l
def B54:Nat→List UInt8→Nat
 |0,_=>0
 |_+1,[]=>0
 |n+1,c::r=>if ofB C26 c then 1+B54 n r else if B9D (c::r)then A8b (c::r)+B54 n ((c::r).drop (A8b (c::r)))else 0
def sk(l:List UInt8):Nat:=B54 l.length l
def B55(l:List UInt8)(i:Nat):Nat:=i+sk (l.drop i)
structure Tok where
 kind:Int
 text:List UInt8
 n:Int
 deriving DecidableEq
def A3c(p:Int→Bool):List UInt8→Nat
 | []=>0
 |c::r=>if ofB p c then A3c p r+1 else 0
def C6p:List UInt8→Nat:=List.foldl (fun n c=>10*n+(c.toNat-48)) 0
def B56(signs:List (List UInt8))(l:List UInt8):Nat:=signs.foldl (fun n s=>if n<s.length∧List.isPrefixOf s l=true then s.length else n) 0
def A6E:List UInt8→Nat
 | []=>0
 |c::r=>if c.toNat=34 then 0 else A6E r+1
def C88(signs:List (List UInt8))(l:List UInt8):Option (Tok×Nat):=
 if B25 (V8 l 0)then(if A3c B26 l≤40 then some (⟨1,l.take (A3c B26 l),0⟩,A3c B26 l)else none)
 else if Q1 (V8 l 0)then
  (if C6p (l.take (A3c Q1 l))≤2147483647∧¬(A3c Q1 l<l.length∧B26 (V8 l (A3c Q1 l))=true)then some (⟨2,[],C6p (l.take (A3c Q1 l))⟩,A3c Q1 l)else none)
 else if V8 l 0=34 then
  (if A6E (l.drop 1)<(l.drop 1).length∧C27 ((l.drop 1).take (A6E (l.drop 1)))=true then some (⟨3,(l.drop 1).take (A6E (l.drop 1)),0⟩,A6E (l.drop 1)+2)else none)
 else if B56 signs l=0 then none else some (⟨4,l.take (B56 signs l),0⟩,B56 signs l)
def C6q(signs:List (List UInt8))(l:List UInt8):Nat→Nat→List (Tok×Nat)→Except Nat (List (Tok×Nat))
 |0,_,acc=>.ok acc
 |f+1,i,acc=>if i<l.length then match C88 signs (l.drop i)with
  |none=>.error i
  |some (t,k)=>C6q signs l f (B55 l (i+k)) (acc++[(t,i)])
  else .ok acc
def cut(signs:List (List UInt8))(l:List UInt8):Except Nat (List (Tok×Nat)):=C6q signs l (l.length+1) (B55 l 0) []
end Go.Lexs
namespace Go.Lin
open Go Go.Av Go.Lexs
structure LTm where
 v:ByteArray
 c:Int
 deriving DecidableEq
instance :Inhabited LTm:=⟨⟨⟨#[]⟩,0⟩⟩
structure LinV where
 t:List LTm
 k:Int
 e:Bool
 deriving DecidableEq
instance :Inhabited LinV:=⟨⟨[],0,false⟩⟩
structure VlV where
 v:ByteArray
 n:Int
 deriving DecidableEq
instance :Inhabited VlV:=⟨⟨⟨#[]⟩,0⟩⟩
abbrev S1(t:LTm):List D:=[.str t.v,.int .i64 t.c]
abbrev D9(a:LinV):List D:=[.sl 2 (Rw S1 a.t),.int .i64 a.k,.bool a.e]
abbrev vlC(x:VlV):List D:=[.str x.v,.int .i64 x.n]
theorem B1s(a:LinV):D9 a= [.sl 2 (Rw S1 a.t),.int .i64 a.k,.bool a.e]:=rfl
def Y4(n:Int):Prop:= -9223372036854775808≤n∧n≤9223372036854775807
structure S3(a:LinV):Prop where
 len:a.t.length≤5864062014639
 str: ∀t∈a.t,t.v.size≤140737488351232
 co: ∀t∈a.t,Y4 t.c
 ko:Y4 a.k
structure A03(l:List VlV):Prop where
 len:l.length≤5864062014639
 str: ∀t∈l,t.v.size≤140737488351232
 no: ∀t∈l,Y4 t.n
def Q6(c:Int):Bool:=decide (33≤c)&&decide (c≤126)&&decide (c≠43)&&decide (c≠45)&&decide (c≠42)&&decide (c≠60)&&decide (c≠62)&&decide (c≠61)
def G4(l:List UInt8):Bool:=decide (l≠[])&&decide (l.length≤200)&& !Q1 (V8 l 0)&&l.all (ofB Q6)
theorem A2Z(c:Int):Q6 c=true↔33≤c∧c≤126∧c≠43∧c≠45∧c≠42∧c≠60∧c≠62∧c≠61:=by simp[Q6,and_assoc]
theorem A3d{c:Int}(h: ¬(33≤c∧c≤126∧c≠43∧c≠45∧c≠42∧c≠60∧c≠62∧c≠61)):Q6 c=false:=by rw[←D1w,A2Z];exact h
def S4(x y:ByteArray):Bool:=Op.bytesLess (B x) (B y)
theorem B57(x:List UInt8): ∀y,Op.bytesLess x y=true↔x<y:=by
 induction x with
 |nil=>intro y;cases y<;>simp[Op.bytesLess]
 |cons a x d=>
  intro y;cases y with
  |nil=>simp[Op.bytesLess]
  |cons b y=>
   simp only[Op.bytesLess,List.cons_lt_cons_iff,D1x,D0n,D0w,beq_iff_eq,d y]
theorem A3e(x y:ByteArray):S4 x y=true↔B x<B y:=B57 _ _
theorem u0(x:ByteArray):S4 x x=false:=by
 rw[←D1w,A3e];exact List.lt_irrefl _
theorem Z7{x y z:ByteArray}(h:S4 x y=true)(g:S4 y z=true):S4 x z=true:=by
 rw[A3e]at*;exact List.lt_trans h g
theorem B9E{x y:ByteArray}(h:S4 x y=false)(d:x≠y):S4 y x=true:=by
 rw[←D1w,A3e]at h;rw[A3e];have:B x≠B y:=fun e=>d (by rw[←S_B x,←S_B y,e]);by_cases g:B y<B x
 ·exact g
 ·exact absurd (List.le_antisymm (List.not_lt.1 g) (List.not_lt.1 h)) this
def I3(n most:Int):Bool:=decide (-most≤n)&&decide (n≤most)
def A14(l:List LTm)(i:Nat):Bool:=
 G4 (B (l.getD i default).v)&&(decide (i=0)||S4 (l.getD (i-1) default).v (l.getD i default).v)&&decide ((l.getD i default).c≠0)&&I3 (l.getD i default).c 1048576
def X2(l:List LTm):Bool:=(List.range l.length).all (A14 l)
def validL(a:LinV):Bool:=X2 a.t&&decide (a.t.length≤12)&&I3 a.k 1099511627776
def up:List ByteArray→Bool
 | []=>true
 | [_]=>true
 |x::y::l=>S4 x y&&up (y::l)
def E9:List ByteArray→ByteArray→List ByteArray
 | [],s=>[s]
 |x::l,s=>if S4 x s=true then x::E9 l s else if x=s then x::l else s::x::l
def P1(l:List LinV):List ByteArray:=l.flatMap fun c=>c.t.map (·.v)
def A15(l:List LinV):List ByteArray:=(P1 l).foldl E9 []
theorem A7Q(l:List ByteArray)(s x:ByteArray):x∈E9 l s↔x∈l∨x=s:=by
 induction l with
 |nil=>simp[E9]
 |cons y l d=>
  unfold E9;split
  ·simp only[D02,d];constructor
   ·rintro(h|h|h)
    ·exact .inl (.inl h)
    ·exact .inl (.inr h)
    ·exact .inr h
   ·rintro((h|h)|h)
    ·exact .inl h
    ·exact .inr (.inl h)
    ·exact .inr (.inr h)
  ·split
   ·rename_i e;subst e;simp only[D02];constructor
    ·exact .inl
    ·rintro(h|h)
     ·exact h
     ·exact .inl h
   ·simp only[D02];constructor
    ·rintro(h|h)
     ·exact .inr h
     ·exact .inl h
    ·rintro(h|h)
     ·exact .inr h
     ·exact .inl h
theorem B58{l:List ByteArray}{s:ByteArray}(h:l.Pairwise fun x y=>S4 x y=true):(E9 l s).Pairwise fun x y=>S4 x y=true:=by
 induction l with
 |nil=>exact List.pairwise_singleton _ _
 |cons y l i=>
  unfold E9;split
  ·rename_i h1;refine List.Pairwise.cons (fun z d=>?_) (i h.of_cons);rcases(A7Q _ _ _).1 d with g|rfl
   ·exact List.rel_of_pairwise_cons h g
   ·exact h1
  ·rename_i h1;split
   ·exact h
   ·rename_i j;have e:=B9E (D1w _ ▸ h1) j;refine List.Pairwise.cons (fun z d=>?_) h;rcases D02.1 d with rfl|d
    ·exact e
    ·exact Z7 e (List.rel_of_pairwise_cons h d)
theorem B0G(m:List ByteArray): ∀(l:List ByteArray),l.Pairwise (fun x y=>S4 x y=true)→(m.foldl E9 l).Pairwise fun x y=>S4 x y=true:=by
 induction m with
 |nil=>exact fun l h=>h
 |cons s m d=>exact fun l h=>d _ (B58 h)
theorem A7R(m:List ByteArray)(x:ByteArray): ∀(l:List ByteArray),x∈m.foldl E9 l↔x∈l∨x∈m:=by
 induction m with
 |nil=>intro l;simp
 |cons s m d=>
  intro l;rw[List.foldl_cons,d,A7Q,D02,or_assoc]
theorem B0H(l:List LinV):(A15 l).Pairwise fun x y=>S4 x y=true:=B0G _ _ .nil
theorem A7S(l:List LinV)(x:ByteArray):x∈A15 l↔x∈P1 l:=by unfold A15;rw[A7R];simp
theorem A6F: ∀{l m:List ByteArray},l.Pairwise (fun x y=>S4 x y=true)→m.Pairwise (fun x y=>S4 x y=true)→(∀x,x∈l↔x∈m)→l=m
 | [],[],_,_,_=>rfl
 | [],y::m,_,_,h=>absurd ((h y).2 (D0l ..)) (by simp)
 |x::l,[],_,_,h=>absurd ((h x).1 (D0l ..)) (by simp)
 |x::l,y::m,hl,hm,h=>by
  have e:x=y:=by
   rcases D02.1 ((h x).1 (D0l ..))with e|g
   ·exact e
   ·rcases D02.1 ((h y).2 (D0l ..))with e|i
    ·exact e.symm
    ·have a1:=List.rel_of_pairwise_cons hm g;have a2:=List.rel_of_pairwise_cons hl i;have:=Z7 a1 a2;rw[u0]at this;cases this
  subst e;refine congrArg (x:: ·) (A6F hl.of_cons hm.of_cons fun z=>?_);constructor
  ·intro d;rcases D02.1 ((h z).1 (D0s _ d))with rfl|g
   ·have:=List.rel_of_pairwise_cons hl d;rw[u0]at this;cases this
   ·exact g
  ·intro d;rcases D02.1 ((h z).2 (D0s _ d))with rfl|g
   ·have:=List.rel_of_pairwise_cons hm d;rw[u0]at this;cases this
   ·exact g
abbrev dec(n:Nat):List UInt8:=Lib.decDigits n
theorem A4Q{n:Nat}(h:n<10):dec n= [UInt8.ofNat (48+n)]:=by rw[dec,Lib.decDigits,dif_pos h]
theorem A6G{n:Nat}(h: ¬n<10):dec n=dec (n / 10)++[UInt8.ofNat (48+n % 10)]:=by rw[dec,Lib.decDigits,dif_neg h]
theorem A04{d:Nat}(h:d<10):(UInt8.ofNat (48+d)).toNat=48+d:=by
 rw[UInt8.toNat_ofNat'];omega
theorem P9(n:Nat): ∀c∈dec n,48≤c.toNat∧c.toNat≤57:=by
 induction n using Nat.strongRecOn with
 |ind n d=>
  intro c hc;by_cases h:n<10
  ·rw[A4Q h,D01]at hc;subst hc;rw[A04 h];omega
  ·rw[A6G h]at hc;rcases D00.1 hc with g|g
   ·exact d (n / 10) (by omega) c g
   ·rw[D01]at g;subst g;rw[A04 (by omega)];omega
theorem A8c(n:Nat):dec n≠[]:=by
 by_cases h:n<10
 ·rw[A4Q h];simp
 ·rw[A6G h];simp
theorem A5U(k n:Nat)(h:n<10 ^ (k+1)):(dec n).length≤k+1:=by
 induction k generalizing n with
 |zero=>rw[A4Q (by omega)];simp
 |succ k d=>
  by_cases hn:n<10
  ·rw[A4Q hn];simp
  ·rw[A6G hn,D0g,D0i];have:=d (n / 10) (by rw[Nat.pow_succ]at h;omega);omega
theorem A6H(l:List UInt8)(d:Nat)(i:d<10): ∀(e u:Nat),Lib.parseUint10 e l= .ok u→u*10+d<18446744073709551616→Lib.parseUint10 e (l++[UInt8.ofNat (48+d)])= .ok (u*10+d):=by
 induction l with
 |nil=>
  intro e u h g;simp only[Lib.parseUint10]at h;injection h with h
  subst h;simp only[D1m,Lib.parseUint10,A04 i];rw[if_pos (by omega),if_neg (by omega),if_neg (by omega)]
  congr 1;omega
 |cons c l j=>
  intro e u h g;simp only[Lib.parseUint10,D1l]at h⊢;split at h
  ·rename_i h1;rw[if_pos h1];split at h
   ·cases h
   ·rename_i m;rw[if_neg m];split at h
    ·cases h
    ·rename_i o;rw[if_neg o];exact j _ u h g
  ·cases h
theorem B4M(n:Nat)(h:n<18446744073709551616):Lib.parseUint10 0 (dec n)= .ok n:=by
 induction n using Nat.strongRecOn with
 |ind n d=>
  by_cases h1:n<10
  ·rw[A4Q h1];have:=A6H [] n h1 0 0 rfl (by omega);simpa using this
  ·rw[A6G h1];have:=A6H (dec (n / 10)) (n % 10) (by omega) 0 (n / 10) (d _ (by omega) (by omega)) (by omega);rw[this];congr 1;omega
theorem B0I(n:Nat)(h:n<9223372036854775808):Lib.atoiAll (dec n)= .ok (n:Int):=by
 cases d:dec n with
 |nil=>exact absurd d (A8c n)
 |cons c r=>
  have hc:=P9 n c (by rw[d];exact D0l ..);have hp:=B4M n (by omega);rw[d]at hp;unfold Lib.atoiAll;simp only[];rw[if_neg (by omega)];have hm:Lib.parseMag (c::r)= .ok n:=by unfold Lib.parseMag;rw[if_neg (by simp)];exact hp
  rw[hm];simp only[];rw[if_neg (by omega),if_neg (by omega),if_neg (by omega)]
def B9F(l:List UInt8):Int:=l.foldl (fun n c=>10*n+(c.toNat:Int)-48) 0
def B9G(l:List UInt8):Int:=B9F (l.take 14)
theorem B59(n:Nat):B9F (dec n)=n:=by
 induction n using Nat.strongRecOn with
 |ind n d=>
  by_cases h:n<10
  ·rw[A4Q h];simp only[B9F,List.foldl_cons,List.foldl_nil,A04 h];omega
  ·rw[A6G h];have e:=d (n / 10) (by omega);unfold B9F at e⊢;rw[D1S,e];simp only[List.foldl_cons,List.foldl_nil,A04 (show n % 10<10 by omega)];omega
theorem B0J(n:Nat)(h:n<100000000000000):B9G (dec n)=n:=by
 unfold B9G;rw[D0p (A5U 13 n (by omega)),B59]
def U8(f:Bool)(t:LTm):List UInt8:=(if t.c<0 then [45]else if f=true then []else [43])++((if t.c.natAbs=1 then []else dec t.c.natAbs++[42])++B t.v)
def L5:Bool→List LTm→List UInt8
 |_,[]=>[]
 |f,t::l=>U8 f t++L5 false l
def A0S(f:Bool)(k:Int):List UInt8:=(if k<0 then [45]else if f=true then []else [43])++dec k.natAbs
def S5(a:LinV):List UInt8:=if a.t= []∨a.k≠0 then A0S a.t.isEmpty a.k else []
def M2(a:LinV):List UInt8:=L5 true a.t++S5 a
def F7(a:LinV):List UInt8:=M2 a++if a.e=true then [61,48]else [62,61,48]
theorem B0K(l:List LTm)(t:LTm): ∀f,L5 f (l++[t])=L5 f l++U8 (f&&l.isEmpty) t:=by
 induction l with
 |nil=>intro f;simp[L5]
 |cons x l d=>intro f;simp[L5,d]
def sgn(c:UInt8):Bool:=c==43||c==45
def P2(l:List UInt8):List (List UInt8):=match l with
 | []=>[]
 |x::r=>(x::r.takeWhile (!sgn ·))::P2 (r.dropWhile (!sgn ·))
termination_by l.length
decreasing_by
 have:=(List.dropWhile_sublist (!sgn ·) (l:=r)).length_le;simp only[D0f];omega
theorem A27:P2 []= []:=by unfold P2;rfl
theorem A16(x:UInt8)(r:List UInt8):P2 (x::r)=(x::r.takeWhile (!sgn ·))::P2 (r.dropWhile (!sgn ·)):=by rw[P2]
def Sg(l:List UInt8):Prop:=∀c r,l=c::r→sgn c=true
theorem T5{p:UInt8→Bool}{l R:List UInt8}(h: ∀c∈l,p c=true)(e: ∀c r,R=c::r→p c=false):(l++R).takeWhile p=l∧(l++R).dropWhile p=R:=by
 induction l with
 |nil=>
  cases R with
  |nil=>simp
  |cons c r=>simp[e c r rfl]
 |cons x l g=>
  have h1:=h x (D0l ..);have d:=g (fun c hc=>h c (D0s _ hc));simp[h1,d.1,d.2]
theorem A6I{x:UInt8}{l R:List UInt8}(h: ∀c∈l,sgn c=false)(d:Sg R):P2 (x::(l++R))=(x::l)::P2 R:=by
 have:=T5 (p:=(!sgn ·)) (l:=l) (R:=R) (fun c hc=>by simp[h c hc]) (fun c r e=>by simp[d c r e]);rw[A16,this.1,this.2]
def A0T(l:List UInt8):Option (List UInt8×List UInt8):=if(42:UInt8)∈l then some (l.takeWhile (· != 42),(l.dropWhile (· != 42)).drop 1)else none
def Q0(l:List UInt8):Bool:=decide (l≠[])&&Q1 (V8 l 0)
def o9(x:List UInt8):Bool×List UInt8:=
 let b:=Lib.trimPrefix x [43]
 if Lib.hasPrefix b [45]=true then(true,b.drop 1)else(false,b)
def A0J(b:List UInt8):Option (List UInt8×List UInt8):=match A0T b with
 |some (c,n)=>some (c,n)
 |none=>if Q0 b=true then some (b,[])else if b= []then none else some ([49],b)
def M7(x:List UInt8):Option (List UInt8×Int):=match A0J (o9 x).2 with
 |none=>none
 |some (c,n)=>match Lib.atoiAll c with
  | .ok v=>some (n,IntKind.i64.wrap ((if(o9 x).1=true then-1 else 1)*v))
  |_=>none
def A7T(x:List UInt8):Bool×List UInt8:=match x with
 | []=>(false,[])
 |c::r=>if c=45 then(true,r)else if c=43 then(false,r)else(false,c::r)
def A28(x:List UInt8):List UInt8×Int:=
 let b:=(A7T x).2
 let p:Int×List UInt8:=match A0T b with
  |some (c,n)=>(B9G c,n)
  |none=>(1,b)
 let q:Int×List UInt8:=if p.2= []∨Q0 p.2=true then(B9G p.2,[])else p
 (q.2,if(A7T x).1=true then-q.1 else q.1)
def A64(a:LinV)(p:List UInt8×Int):LinV:=if p.1= []then {a with k:=p.2}else {a with t:=a.t++[⟨S p.1,p.2⟩]}
theorem B27{p:Int→Bool}{l:List UInt8}(h:l.all (ofB p)=true): ∀c∈l,p (c.toNat:Int)=true:=fun c hc=>D1B.1 h c hc
theorem A6J{l:List UInt8}(h:G4 l=true): ∀c∈l,33≤c.toNat∧c.toNat≤126∧c.toNat≠43∧c.toNat≠45∧c.toNat≠42∧c.toNat≠62∧c.toNat≠61:=fun c hc=>by
 unfold G4 at h;simp only[D0n]at h;have:=(A2Z _).1 (B27 h.2 c hc);omega
theorem A3f{l:List UInt8}(h:G4 l=true):l≠[]:=by
 unfold G4 at h;simp only[D0n,D0w]at h;exact h.1.1.1
theorem A7U{l:List UInt8}(h:G4 l=true):Q0 l=false:=by
 unfold G4 at h;simp only[D0n,Bool.not_eq_true']at h;unfold Q0;rw[h.1.2,Bool.and_false]
theorem C28{c:UInt8}(h1:c.toNat≠43)(d:c.toNat≠45):sgn c=false:=by
 unfold sgn;simp only[Bool.or_eq_false_iff,beq_eq_false_iff_ne];exact⟨fun e=>h1 (by rw[e];rfl),fun e=>d (by rw[e];rfl)⟩
def A1n(t:LTm):List UInt8:=(if t.c.natAbs=1 then []else dec t.c.natAbs++[42])++B t.v
theorem B28(t:LTm)(h:G4 (B t.v)=true):A1n t≠[]:=by
 unfold A1n;have:=A3f h;intro e;exact this (List.append_eq_nil_iff.1 e).2
theorem A17(t:LTm)(h:G4 (B t.v)=true): ∀c∈A1n t,c.toNat≠43∧c.toNat≠45∧c.toNat≠62∧c.toNat≠61:=fun c hc=>by
 unfold A1n at hc;rcases D00.1 hc with g|g
 ·split at g
  ·cases g
  ·rcases D00.1 g with g|g
   ·have:=P9 _ c g;omega
   ·rw[D01]at g;subst g;decide
 ·have:=A6J h c g;omega
theorem A4x(s:List UInt8)(b R:List UInt8)(hs:s= []∨s= [43]∨s= [45])(hb:b≠[])(hm: ∀c∈b,c.toNat≠43∧c.toNat≠45)(d:Sg R):P2 (s++b++R)=(s++b)::P2 R:=by
 have hn: ∀c∈b,sgn c=false:=fun c hc=>C28 (hm c hc).1 (hm c hc).2;rcases hs with rfl|hs
 ·cases b with
  |nil=>exact absurd rfl hb
  |cons x b=>exact A6I (x:=x) (fun c hc=>hn c (D0s _ hc)) d
 ·rcases hs with rfl|rfl<;>exact A6I hn d
theorem sign_or(f:Bool)(c:Int):(if c<0 then [45]else if f=true then([]:List UInt8)else [43])= []∨(if c<0 then [45]else if f=true then([]:List UInt8)else [43])= [43]∨(if c<0 then [45]else if f=true then([]:List UInt8)else [43])= [45]:=by
 split
 ·exact .inr (.inr rfl)
 ·split
  ·exact .inl rfl
  ·exact .inr (.inl rfl)
theorem B29(f:Bool)(c:Int){b:List UInt8}(hb:b≠[])(hm: ∀x∈b,x.toNat≠43∧x.toNat≠45):
    o9 ((if c<0 then [45]else if f=true then []else [43])++b)=(decide (c<0),b)∧A7T ((if c<0 then [45]else if f=true then []else [43])++b)=(decide (c<0),b):=by
  cases b with
  |nil=>exact absurd rfl hb
  |cons x b=>
    have hx:=hm x (D0l ..);have g:x≠43:=fun e=>hx.1 (by rw[e];rfl);have d:x≠45:=fun e=>hx.2 (by rw[e];rfl);by_cases h:c<0
    · rw[if_pos h,D0c h]
      constructor
      · simp[o9,Lib.trimPrefix,Lib.hasPrefix]
      · simp[A7T]
    · rw[if_neg h,D0d h]
      cases f with
      | true => constructor
                · simp[o9,Lib.trimPrefix,Lib.hasPrefix,g.symm,d.symm]
                · simp[A7T,g,d]
      | false => constructor
                 · simp[o9,Lib.trimPrefix,Lib.hasPrefix,d.symm]
                 · simp[A7T]
theorem B6A{d n:List UInt8}(h: ∀c∈d,c.toNat≠42):A0T (d++[42]++n)=some (d,n):=by
 unfold A0T;have e:=T5 (p:=(· != 42)) (l:=d) (R:=42::n) (fun c hc=>by
  have:=h c hc;simp only[bne_iff_ne,ne_eq];intro e;exact this (by rw[e];rfl)) (fun c r e=>by cases e;decide)
 rw[if_pos (by simp),D1O,List.singleton_append,e.1,e.2];rfl
theorem B3A{d:List UInt8}(h: ∀c∈d,c.toNat≠42):A0T d=none:=by
 unfold A0T;rw[if_neg (fun hm=>h _ hm rfl)]
theorem signed{c:Int}:(if decide (c<0)=true then-1 else 1)*(c.natAbs:Int)=c:=by
 by_cases h:c<0
 ·rw[D0c h,if_pos rfl];omega
 ·rw[D0d h,if_neg (by decide)];omega
theorem A8d{c:Int}:(if decide (c<0)=true then-(c.natAbs:Int)else(c.natAbs:Int))=c:=by
 by_cases h:c<0
 ·rw[D0c h,if_pos rfl];omega
 ·rw[D0d h,if_neg (by decide)];omega
theorem A8e{n:Int}(d: -9223372036854775808≤n)(h1:n≤9223372036854775807):IntKind.i64.wrap n=n:=by simp(disch:=omega) only[A3]
theorem B1t(f:Bool)(t:LTm)(hn:G4 (B t.v)=true)(h:t.c≠0)(hc:t.c.natAbs≤1048576):M7 (U8 f t)=some (B t.v,t.c)∧A28 (U8 f t)=(B t.v,t.c):=by
 have hb:=B29 f t.c (B28 t hn) (fun x hx=>⟨(A17 t hn x hx).1,(A17 t hn x hx).2.1⟩);have e:U8 f t=(if t.c<0 then [45]else if f=true then []else [43])++A1n t:=rfl;unfold M7 A28;rw[e,hb.1,hb.2];by_cases h1:t.c.natAbs=1
 ·have g:A1n t=B t.v:=by unfold A1n;rw[if_pos h1,D1m]
  have d:A0T (B t.v)=none:=B3A fun c hc=>(A6J hn c hc).2.2.2.2.1;have e1:Lib.atoiAll [49]= .ok 1:=by decide
  have e2:(if decide (t.c<0)=true then-1 else 1)*(1:Int)=t.c:=by have:=signed (c:=t.c);rwa [h1]at this
  have e3:(if decide (t.c<0)=true then-(1:Int)else 1)=t.c:=by have:=A8d (c:=t.c);rwa [h1]at this
  simp only[g,A0J,d,A7U hn,if_neg (A3f hn),D0q,if_false,e1,e2];refine⟨by rw[A8e (by omega) (by omega)],?_⟩;rw[if_neg (by simp[A3f hn])];simp only[e3]
 ·have g:A1n t=dec t.c.natAbs++[42]++B t.v:=by unfold A1n;rw[if_neg h1]
  have d:A0T (dec t.c.natAbs++[42]++B t.v)=some (dec t.c.natAbs,B t.v):=B6A fun c hc=>by have:=P9 _ c hc;omega
  simp only[g,A0J,d,B0I t.c.natAbs (by omega),signed];refine⟨by rw[A8e (by omega) (by omega)],?_⟩;rw[if_neg (by simp[A3f hn,A7U hn])];simp only[B0J t.c.natAbs (by omega),A8d]
theorem B6B(n:Nat):Q0 (dec n)=true:=by
 unfold Q0;cases h:dec n with
 |nil=>exact absurd h (A8c n)
 |cons c r=>
  have:=P9 n c (by rw[h];exact D0l ..);have e:V8 (c::r) 0=(c.toNat:Int):=rfl;rw[e];simp[Q1];omega
theorem A2a(f:Bool)(k:Int)(hk:k.natAbs≤1099511627776):M7 (A0S f k)=some ([],k)∧A28 (A0S f k)=([],k):=by
 have hm: ∀x∈dec k.natAbs,x.toNat≠43∧x.toNat≠45:=fun x hx=>by have:=P9 _ x hx;omega
 have hb:=B29 f k (A8c k.natAbs) hm;have e:A0S f k=(if k<0 then [45]else if f=true then []else [43])++dec k.natAbs:=rfl;have d:A0T (dec k.natAbs)=none:=B3A fun c hc=>by have:=P9 _ c hc;omega
 unfold M7 A28;rw[e,hb.1,hb.2];simp only[A0J,d,B6B,if_true,B0I k.natAbs (by omega),signed];refine⟨by rw[A8e (by omega) (by omega)],?_⟩;rw[if_pos (.inr trivial)];simp only[B0J k.natAbs (by omega),A8d]
theorem A05{l:List LTm}(h:X2 l=true){i:Nat}(j:i<l.length):G4 (B l[i].v)=true∧l[i].c≠0∧l[i].c.natAbs≤1048576∧(∀d:i-1<l.length,0<i→S4 l[i-1].v l[i].v=true):=by
 unfold X2 at h;have:=D1B.1 h i (List.mem_range.2 j);unfold A14 I3 at this;have e:l.getD i default=l[i]:=by simp[j]
 have e2: ∀d:i-1<l.length,l.getD (i-1) default=l[i-1]:=fun d=>by simp[d]
 rw[e]at this;simp only[D0n,D1x,D0w]at this;refine⟨this.1.1.1,this.1.2,by omega,fun d m=>?_⟩;rcases this.1.1.2 with g|g
 ·omega
 ·rw[e2 d]at g;exact g
theorem N1{l:List LTm}(h:X2 l=true): ∀t∈l,G4 (B t.v)=true∧t.c≠0∧t.c.natAbs≤1048576:=fun t d=>by
 obtain⟨i,e,rfl⟩:=List.getElem_of_mem d;have:=A05 h e;exact⟨this.1,this.2.1,this.2.2.1⟩
theorem B9H(k:Int):Sg (A0S false k):=fun c r e=>by
 unfold A0S at e;split at e
 ·cases e;decide
 ·cases e;decide
theorem B6C(t:LTm)(l:List UInt8):Sg (U8 false t++l):=fun c r e=>by
 unfold U8 at e;split at e
 ·cases e;decide
 ·cases e;decide
theorem A1X: ∀(l:List LTm) (f:Bool) (R:List UInt8),(∀t∈l,G4 (B t.v)=true∧t.c≠0∧t.c.natAbs≤1048576)→Sg R→
  ∃ps,P2 (L5 f l++R)=ps++P2 R∧ps.mapM M7=some (l.map fun t=>(B t.v,t.c))∧ps.map A28=l.map fun t=>(B t.v,t.c)
 | [],f,R,_,_=>⟨[],by simp[L5],rfl,rfl⟩
 |t::l,f,R,h,i=>by
  have d:=h t (D0l ..);obtain⟨ps,h1,j,m⟩:=A1X l false R (fun x hx=>h x (D0s _ hx)) i;have hp:=B1t f t d.1 d.2.1 d.2.2;have g:Sg (L5 false l++R):=by
   cases l with
   |nil=>exact i
   |cons y l=>rw[L5,D1O];exact B6C y _
  refine⟨U8 f t::ps,?_,?_,?_⟩
  ·rw[L5,D1O];have e:U8 f t=(if t.c<0 then [45]else if f=true then []else [43])++A1n t:=rfl;have:=A4x (if t.c<0 then [45]else if f=true then []else [43]) (A1n t) (L5 false l++R) (sign_or f t.c) (B28 t d.1) (fun c hc=>⟨(A17 t d.1 c hc).1,(A17 t d.1 c hc).2.1⟩) g;rw[←e]at this;rw[this,h1];rfl
  ·rw[List.mapM_cons,hp.1,j];rfl
  ·rw[D1r,hp.2,m];rfl
def A1Y(a:LinV)(ps:List (List UInt8×Int)):LinV:=ps.foldl A64 a
theorem A3g(l:List LTm): ∀(a:LinV),(∀t∈l,G4 (B t.v)=true)→A1Y a (l.map fun t=>(B t.v,t.c))= {a with t:=a.t++l}:=by
 induction l with
 |nil=>intro a _;simp[A1Y]
 |cons x l d=>
  intro a h;have hx:=A3f (h x (D0l ..));unfold A1Y at d⊢;rw[D1r,List.foldl_cons];have e:A64 a (B x.v,x.c)= {a with t:=a.t++[x]}:=by unfold A64;rw[if_neg hx,S_B]
  rw[e,d _ (fun t g=>h t (D0s _ g))];simp
theorem B0L(a:LinV)(g:validL a=true): ∃ps,(P2 (M2 a)).mapM M7=some ps∧(P2 (M2 a)).map A28=ps∧∀e,A1Y ⟨[],0,e⟩ ps=⟨a.t,a.k,e⟩:=by
 unfold validL I3 at g;simp only[D0n,D0w]at g;have hk:a.k.natAbs≤1099511627776:=by omega
 have hm:=N1 g.1.1;have o: ∀x∈dec a.k.natAbs,x.toNat≠43∧x.toNat≠45:=fun x hx=>by have:=P9 _ x hx;omega
 have d: ∀f,P2 (A0S f a.k)= [A0S f a.k]:=fun f=>by
  have:=A4x (if a.k<0 then [45]else if f=true then []else [43]) (dec a.k.natAbs) [] (sign_or f a.k) (A8c _) o (fun c r e=>by cases e);rw[D1P,A27]at this;exact this
 by_cases hn:a.t= []
 ·have e:M2 a=A0S true a.k:=by unfold M2 S5;rw[hn];simp[L5]
  refine⟨[([],a.k)],?_,?_,fun e=>?_⟩
  ·rw[e,d,List.mapM_cons,(A2a true a.k hk).1];rfl
  ·rw[e,d];simp only[D1r,List.map_nil,(A2a true a.k hk).2]
  ·rw[hn];simp[A1Y,A64]
 ·have he:a.t.isEmpty=false:=by simp[hn]
  by_cases h:a.k=0
  ·have e:M2 a=L5 true a.t++[]:=by unfold M2 S5;rw[if_neg (by simp[hn,h])]
   obtain⟨ps,h1,i,j⟩:=A1X a.t true [] hm (fun c r e=>by cases e);rw[A27,D1P ps]at h1;refine⟨a.t.map fun t=>(B t.v,t.c),?_,?_,fun e=>?_⟩
   ·rw[e,h1];exact i
   ·rw[e,h1];exact j
   ·rw[A3g _ _ (fun t m=>(hm t m).1),h];simp
  ·have e:M2 a=L5 true a.t++A0S false a.k:=by unfold M2 S5;rw[if_pos (.inr h),he]
   obtain⟨ps,h1,i,j⟩:=A1X a.t true (A0S false a.k) hm (B9H a.k);rw[d]at h1;refine⟨(a.t.map fun t=>(B t.v,t.c))++[([],a.k)],?_,?_,fun e=>?_⟩
   ·rw[e,h1,List.mapM_append,i,List.mapM_cons,(A2a false a.k hk).1];rfl
   ·rw[e,h1,D1a,j,D1r,List.map_nil,(A2a false a.k hk).2]
   ·have:=A3g a.t ⟨[],0,e⟩ (fun t m=>(hm t m).1);unfold A1Y at this⊢;rw[D1S,this];simp[A64]
theorem B6D(a:LinV)(d:validL a=true): ∀c∈M2 a,c.toNat≠61∧c.toNat≠62:=by
 unfold validL at d;simp only[D0n]at d;have hm:=N1 d.1.1;have key: ∀(l:List LTm) (f:Bool),(∀t∈l,G4 (B t.v)=true)→∀c∈L5 f l,c.toNat≠61∧c.toNat≠62:=by
  intro l
  induction l with
  |nil=>intro f _ c hc;cases hc
  |cons t l i=>
   intro f h c hc;rw[L5]at hc;rcases D00.1 hc with g|g
   ·have e:U8 f t=(if t.c<0 then [45]else if f=true then []else [43])++A1n t:=rfl;rw[e]at g;rcases D00.1 g with g|g
    ·rcases sign_or f t.c with q|q|q<;>rw[q]at g
     ·cases g
     ·rw[D01]at g;subst g;decide
     ·rw[D01]at g;subst g;decide
    ·have:=A17 t (h t (D0l ..)) c g;exact⟨this.2.2.2,this.2.2.1⟩
   ·exact i false (fun x hx=>h x (D0s _ hx)) c g
 intro c hc;unfold M2 at hc;rcases D00.1 hc with g|g
 ·exact key a.t true (fun t j=>(hm t j).1) c g
 ·unfold S5 at g;split at g
  ·unfold A0S at g;rcases D00.1 g with g|g
   ·rcases sign_or a.t.isEmpty a.k with q|q|q<;>rw[q]at g
    ·cases g
    ·rw[D01]at g;subst g;decide
    ·rw[D01]at g;subst g;decide
   ·have:=P9 _ c g;omega
  ·cases g
def A4y(s:List UInt8):Option LinV:=
 if Lib.hasSuffix s [61,48]=true then
  let b:=Lib.trimSuffix s [61,48]
  ((P2 (Lib.trimSuffix b [62])).mapM M7).map (A1Y ⟨[],0,!Lib.hasSuffix b [62]⟩)
 else none
def A7V(c:UInt8):Bool:=c==61||c==62
def A4z(s:List UInt8):LinV:=
 A1Y ⟨[],0,decide ((s.dropWhile (!A7V ·)).head?=some 61)⟩ ((P2 (s.takeWhile (!A7V ·))).map A28)
theorem A8f(l m:List UInt8):Lib.hasSuffix (l++m) m=true∧Lib.trimSuffix (l++m) m=l:=by
 have h:Lib.hasSuffix (l++m) m=true:=by unfold Lib.hasSuffix;rw[List.isSuffixOf_iff_suffix];exact List.suffix_append ..
 refine⟨h,?_⟩;unfold Lib.trimSuffix;rw[if_pos h];simp
theorem C29(l:List UInt8)(c:UInt8)(h: ∀x∈l,x≠c):Lib.hasSuffix l [c]=false∧Lib.trimSuffix l [c]=l:=by
 have h:Lib.hasSuffix l [c]=false:=by
  rw[←D1w];unfold Lib.hasSuffix;rw[List.isSuffixOf_iff_suffix];rintro⟨r,e⟩;exact h c (by rw[←e];simp) rfl
 refine⟨h,?_⟩;unfold Lib.trimSuffix;rw[if_neg (by simp[h])]
theorem A7W(a:LinV)(j:validL a=true):A4y (F7 a)=some a∧A4z (F7 a)=a:=by
 have hb:=B6D a j;obtain⟨ps,h1,m,o⟩:=B0L a j;have i: ∀x∈M2 a,x≠62:=fun x hx e=>(hb x hx).2 (by rw[e];rfl);have nst: ∀x∈M2 a,(!A7V x)=true:=fun x hx=>by
  have:=hb x hx;have e1:x≠61:=fun e=>this.1 (by rw[e];rfl);have e2:x≠62:=fun e=>this.2 (by rw[e];rfl);simp[A7V,e1,e2]
 unfold A4y A4z F7;cases he:a.e with
 |true=>
  simp only[if_true];have d:=A8f (M2 a) [61,48];have g:=C29 (M2 a) 62 i;have h:=T5 (p:=(!A7V ·)) (l:=M2 a) (R:=[61,48]) nst (fun c r e=>by cases e;decide);rw[if_pos d.1,d.2,g.2,g.1,h.1,h.2,h1,m];have:=o true;refine⟨?_,?_⟩
  ·simp only[Option.map_some,D1z,this];cases a;simp_all
  ·simp only[List.head?_cons,decide_true,this];cases a;simp_all
 |false=>
  simp only[D0q,if_false];have e2:M2 a++[62,61,48]=M2 a++[62]++[61,48]:=by simp
  have d:=A8f (M2 a++[62]) [61,48];have g:=A8f (M2 a) [62];have h:=T5 (p:=(!A7V ·)) (l:=M2 a) (R:=[62,61,48]) nst (fun c r e=>by cases e;decide);rw[h.1,h.2,m,e2,if_pos d.1,d.2,g.2,g.1,h1];have:=o false;refine⟨?_,?_⟩
  ·simp only[Option.map_some,D1y,this];cases a;simp_all
  ·have e3:decide ((62::[61,48]:List UInt8).head?=some 61)=false:=by decide
   rw[e3,this];cases a;simp_all
def A0o(s:List UInt8):Option LinV:=(A4y s).bind fun a=>if validL a=true∧F7 a=s then some a else none
theorem B6E(s:List UInt8):A0o s=if validL (A4z s)=true∧F7 (A4z s)=s then some (A4z s)else none:=by
 unfold A0o;by_cases h: ∃a,validL a=true∧F7 a=s
 ·obtain⟨a,d,rfl⟩:=h;obtain⟨h1,e⟩:=A7W a d;rw[h1,e];rfl
 ·have n: ∀a,¬(validL a=true∧F7 a=s):=fun a g=>h ⟨a,g⟩;rw[if_neg (n _)];cases A4y s with
  |none=>rfl
  |some a=>show (if _ then _ else _)=_;rw[if_neg (n a)]
theorem B0M(a:LinV)(d:validL a=true):A0o (F7 a)=some a:=by
 unfold A0o;rw[(A7W a d).1];show (if _ then _ else _)=_;rw[if_pos ⟨d,rfl⟩]
def nilL:LinV:=⟨[],0,false⟩
def B0N(l:List LTm)(s:ByteArray):Int:=match l with
 | []=>0
 |t::l=>if t.v=s then t.c else B0N l s
theorem B1u{l:List LTm}(h:X2 l=true):l.Pairwise fun x y=>S4 x.v y.v=true:=by
 have key: ∀(j i:Nat) (d:i<l.length) (g:i+j+1<l.length),S4 l[i].v l[i+j+1].v=true:=by
  intro j
  induction j with
  |zero=>intro i d g;exact(A05 h g).2.2.2 (by omega) (by omega)
  |succ j m=>intro i d g;exact Z7 (m i d (by omega)) ((A05 h g).2.2.2 (by omega) (by omega))
 rw[List.pairwise_iff_getElem];intro i j d g o;have:=key (j-i-1) i d (by omega);have e:i+(j-i-1)+1=j:=by omega
 simp only[e]at this;exact this
def C3A(a:LinV)(n:Int):LinV:=⟨if n=0 then []else a.t.map fun t=>⟨t.v,t.c*n⟩,a.k*n,a.e⟩
def A29(a:LinV)(n:Int):Bool:=decide (n=0)||(decide (0<n)&& !a.e)
def okV(l:List VlV)(i:Nat):Bool:=G4 (B (l.getD i default).v)&&(decide (i=0)||S4 (l.getD (i-1) default).v (l.getD i default).v)&&I3 (l.getD i default).n 2147483647
def I6(l:List VlV):Bool:=(List.range l.length).all (okV l)&&decide (l.length≤24)
def J4(l:List VlV)(s:ByteArray):Option Int:=match l with
 | []=>none
 |x::l=>if x.v=s then some x.n else J4 l s
def L8(k:Int)(l:List LTm)(vs:List VlV):Option Int:=match l with
 | []=>some k
 |t::l=>match J4 vs t.v with
  |none=>none
  |some n=>L8 (k+t.c*n) l vs
def atR(a:LinV)(vs:List VlV):Bool×Int:=
 if validL a=true∧I6 vs=true then(match L8 a.k a.t vs with
  |none=>(false,13)
  |some n=>(A29 a n,0))
 else(false,2)
theorem A7X{l:List VlV}{s:ByteArray}(h: ∀x∈l,x.v≠s):J4 l s=none:=by
 induction l with
 |nil=>rfl
 |cons x l d=>rw[J4,if_neg (h x (D0l ..)),d (fun y e=>h y (D0s _ e))]
theorem A8g{l:List VlV}(h:I6 l=true){i:Nat}(j:i<l.length):G4 (B l[i].v)=true∧l[i].n.natAbs≤2147483647∧(∀d:i-1<l.length,0<i→S4 l[i-1].v l[i].v=true):=by
 unfold I6 at h;rw[D0n]at h;have:=D1B.1 h.1 i (List.mem_range.2 j);unfold okV I3 at this;have e:l.getD i default=l[i]:=by simp[j]
 have e2: ∀d:i-1<l.length,l.getD (i-1) default=l[i-1]:=fun d=>by simp[d]
 rw[e]at this;simp only[D0n,D1x,D0w]at this;refine⟨this.1.1,by omega,fun d m=>?_⟩;rcases this.1.2 with g|g
 ·omega
 ·rw[e2 d]at g;exact g
theorem A7Y{l:List VlV}(h:I6 l=true): ∀(i j:Nat) (d:i<l.length) (g:j<l.length),i<j→S4 l[i].v l[j].v=true:=by
 have key: ∀(j i:Nat) (d:i<l.length) (g:i+j+1<l.length),S4 l[i].v l[i+j+1].v=true:=by
  intro j
  induction j with
  |zero=>intro i d g;exact(A8g h g).2.2 (by omega) (by omega)
  |succ j m=>intro i d g;exact Z7 (m i d (by omega)) ((A8g h g).2.2 (by omega) (by omega))
 intro i j d g o;have:=key (j-i-1) i d (by omega);have e:i+(j-i-1)+1=j:=by omega
 simp only[e]at this;exact this
theorem A8h{l:List VlV}(h:I6 l=true){s:ByteArray}{i:Nat}(r:i≤l.length)(h1: ∀(k:Nat) (hk:k<l.length),k<i→S4 l[k].v s=true)(o: ∀hk:i<l.length,S4 l[i].v s=false):
  J4 l s=if hk:i<l.length then(if l[i].v=s then some l[i].n else none)else none:=by
 have key: ∀(m:List VlV) (i:Nat),(∀(k:Nat) (hk:k<m.length),k<i→m[k].v≠s)→(∀(k:Nat) (hk:k<m.length),i<k→m[k].v≠s)→J4 m s=if hk:i<m.length then(if m[i].v=s then some m[i].n else none)else none:=by
  intro m
  induction m with
  |nil=>intro i _ _;simp[J4]
  |cons x m p=>
   intro i a b;rw[J4];cases i with
   |zero=>
    have e:J4 m s=none:=A7X fun y q=>by
     obtain⟨k,hk,rfl⟩:=List.getElem_of_mem q;exact b (k+1) (by simpa using hk) (by omega)
    rw[e];simp
   |succ i=>
    rw[if_neg (show¬x.v=s from a 0 (by simp) (by omega)),p i (fun k hk d=>a (k+1) (by simpa using hk) (by omega)) (fun k hk d=>b (k+1) (by simpa using hk) (by omega))];simp
 refine key l i (fun k hk d e=>?_) (fun k hk d e=>?_)
 ·have:=h1 k hk d;rw[e,u0]at this;cases this
 ·have g:=A7Y h i k (by omega) hk d;have j:=o (by omega);rw[e]at g;rw[g]at j;cases j
end Go.Lin
