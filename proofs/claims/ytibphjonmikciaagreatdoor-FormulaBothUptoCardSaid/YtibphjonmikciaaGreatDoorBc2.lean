/- Part of the proof: what the last text builds on. No condition stands here. -/
import Derived.Test.YtibphjonmikciaaGreatDoorProg
import Derived.Test.YtibphjonmikciaaGreatDoorRows
import Derived.Test.YtibphjonmikciaaGreatDoorCards
import Derived.Test.YtibphjonmikciaaGreatDoorTie
import Derived.Test.YtibphjonmikciaaGreatDoorBc1
set_option linter.unusedSimpArgs false
set_option linter.unusedVariables false
namespace Go.Av
abbrev FEnv:=Nat→D
def FEnv.put(F:FEnv):Option Nat→D→FEnv
 |some t,d=>fun k=>if t=k then d else F k
 |none,_=>F
def FEnv.ev(F:FEnv):Operand→D
 | .tmp t=>F t
 | .const v=>D.ofValue v
 | .global g=>.glob g
 | .func f=>.fn (.func f) [] []
def S0:D→List Nat
 | .vec b _ _ _| .box b _=>[b]
 |_=>[]
def rdB:D→List Nat
 | .box b _| .el b _ _ _| .vec b _ _ _| .map b| .glob b=>[b]
 | .fn _ as_ bs=>(as_++bs).flatMap S0
 |_=>[]
theorem A1o{d:D}{b:Nat}(h:b∈S0 d):b∈rdB d:=by cases d<;>simp_all[S0,rdB]
structure Ef where
 rd:List Nat
 del:List Nat
 new:Option Obj
 at_:Option Nat
 val:Nat→D
def Ef.app(e:Ef)(b:Nat)(H:Heap):Heap:=match e.new with
 |none=>H.minus e.del
 |some o=>(H.minus e.del).set b o
def Ef.okB(e:Ef)(b:Nat)(U:Nat→Prop):Prop:=match e.new,e.at_ with
 |none,_=>True
 |some _,some c=>b=c
 |some _,none=>¬U b∨b∈e.del
def Ef.used(e:Ef)(b:Nat)(U:Nat→Prop):Nat→Prop:=match e.new with
 |none=>U
 |some _=>fun k=>U k∨k=b
def B1Z(o:Option Obj):Bool:=match o with
 |some o=>o.rw
 |none=>false
structure Bl where
 l:List Nat
 no:List Nat:=[]
 may:List Nat:=[]
def A4D(Bi Bj:Bl):Prop:=(∀b∈Bj.l,b∉Bj.no→b∈Bi.l∧b∉Bi.may)∧∀b∈Bi.l,b∉Bi.no→b∈Bj.l∧b∉Bj.may
structure A5y(bl:Bl)(H:Heap)(e:Ef):Prop where
 rd: ∀b∈e.rd,(b∈bl.l∧H b≠none)∧b∉bl.no
 del: ∀b∈e.del,(e.at_=none→b∉bl.l∨b∈bl.may)∧B1Z (H b)=true
 new: ∀o,e.new=some o→o.rw=true
 at_: ∀b,e.at_=some b→b∈e.del
def val(d:D)(rd:List Nat):Ef:=⟨rd,[],none,none,fun _=>d⟩
def A0s(f:Nat→D)(o:Obj):Ef:=⟨[],[],some o,none,f⟩
def S1(bl:List Nat)(l:List Nat):List Nat:=l.filter fun b=> !bl.contains b
def inB(bl:List Nat)(l:List Nat):List Nat:=l.filter fun b=>bl.contains b
def B1a(P:Program)(bl:List Nat)(H:Heap)(t t':TypeId)(s x:D):Option Ef:=(G7 P t).bind fun T=>
 if 0<T.2.1∧(C8 P t'= .slice∨C8 P t'= .str)∧(F9 P T.1).map (·.length)=some T.2.1 then(L6 H T.2.1 x).bind fun xs=>match s with
  | .nilsl=>if xs.length*T.2.2≤140737488355328∧xs.length≤9223372036854775807∧xs.isEmpty=false then some ⟨inB bl (S0 x),S1 bl (S0 x),some (.vec T.2.1 xs),none,fun b=>.vec b T.2.1 0 xs.length⟩else none
  | .vec b sz' lo n=>match H b with
   |some (.vec sz'' es)=>if sz'=T.2.1∧sz''=T.2.1∧lo=0∧n≤es.length∧(n+xs.length)*T.2.2≤140737488355328∧n+xs.length≤9223372036854775807 then
     some ⟨inB bl (S0 x),b::S1 bl (S0 x),some (.vec T.2.1 (es.take n++xs)),none,fun b'=>.vec b' T.2.1 0 (n+xs.length)⟩else none
   |_=>none
  |_=>none else none
def bsE(P:Program)(t:TypeId)(len:Nat)(ps:List (Nat×D)):Option Ef:=(G7 P t).bind fun T=>if 0<T.2.1∧len*T.2.1≤16777216 then(F9 P T.1).bind fun z=>
 if z.length=T.2.1 then(A35 (List.replicate len z) ps).map fun es=>A0s (fun b=>.vec b T.2.1 0 len) (.vec T.2.1 es)else none else none
def msE(P:Program)(t:TypeId)(l c:D):Option Ef:=(G7 P t).bind fun T=>if 0<T.2.1 then(F9 P T.1).bind fun z=>match l,c with
 | .int _ n,.int _ m=>if z.length=T.2.1∧0≤n∧n≤m∧(T.2.2:Int)*m≤281474976710656∧m<9223372036854775808 then some (A0s (fun b=>.vec b T.2.1 0 n.toNat) (.vec T.2.1 (List.replicate n.toNat z)))else none
 |_,_=>none else none
theorem A5M{P:Program}{t:TypeId}{l c:D}{e:Ef}(h:msE P t l c=some e): ∃e' sz d z k n i m,G7 P t=some (e',sz,d)∧0<sz∧F9 P e'=some z∧z.length=sz∧l= .int k n∧c= .int i m∧0≤n∧n≤m∧(d:Int)*m≤281474976710656∧m<9223372036854775808∧
  e=A0s (fun b=>.vec b sz 0 n.toNat) (.vec sz (List.replicate n.toNat z)):=by
 unfold msE at h;obtain⟨⟨e',sz,d⟩,j,h⟩:=D0k.1 h;split at h
 ·rename_i h1;obtain⟨z,o,h⟩:=D0k.1 h;split at h
  ·split at h
   ·rename_i g;cases h;exact⟨e',sz,d,z,_,_,_,_,j,h1,o,g.1,rfl,rfl,g.2.1,g.2.2.1,g.2.2.2.1,g.2.2.2.2,rfl⟩
   ·cases h
  ·cases h
 ·cases h
theorem C2I{P:Program}{t:TypeId}{e' sz d:Nat}{z:List D}{k e:IntKind}{n m:Int}(g:G7 P t=some (e',sz,d))(h1:0<sz)(h:F9 P e'=some z)(i:z.length=sz)(j:0≤n)(o:n≤m)(h5:(d:Int)*m≤281474976710656)(p:m<9223372036854775808):
  msE P t (.int k n) (.int e m)=some (A0s (fun b=>.vec b sz 0 n.toNat) (.vec sz (List.replicate n.toNat z))):=by
 unfold msE;rw[g,D02,if_pos h1,h,D02];simp only[];rw[if_pos ⟨i,j,o,h5,p⟩]
def l8(P:Program)(t:TypeId)(a x:D)(H:Heap):Option Ef:=(Y4 P t a x H).bind fun H'=>match a with
 | .box b _| .el b _ _ _=>(H' b).map fun o=>⟨[],[b],some o,some b,fun _=>.undef⟩
 |_=>none
structure CR where
 new:Option Obj
 val:Nat→D
def CR.c(d:D):CR:=⟨none,fun _=>d⟩
def CR.f(c:CR):Nat→D:=match c.new with
 |none=>fun _=>c.val 0
 |some _=>c.val
def CR.mk'(f:Nat→D)(o:Obj):CR:=⟨some o,f⟩
def I1(P:Program)(c:CR)(bl:List Nat)(ev:Operand→D)(H:Heap)(op:Op):Option Ef:=match op with
 | .load t x=>(w9 P t (ev x) H).map fun d=>val d (rdB (ev x))
 | .lookup t m k ok=>(A1G P t (ev m) (ev k) ok H).map fun d=>val d (rdB (ev m))
 | .alloc t=>(F9 P t).map fun z=>A0s (fun b=>.box b 0) (.box z (A1f P t))
 | .box _ x=>if(ev x).cells.all D.one=true then some (A0s (fun b=>.box b 0) (.box (ev x).cells))else none
 | .buildSlice t len parts=>bsE P t len (parts.toList.map fun p=>(p.1,ev p.2))
 | .makeSlice t l c=>msE P t (ev l) (ev c)
 | .makeMap _ none=>some (A0s (fun b=>.map b) (.map []))
 | .store t a x=>l8 P t (ev a) (ev x) H
 | .call ⟨.builtin .append,args,ts⟩=>match ts.toList,args.toList with
  | [t,t'],[s,x]=>B1a P bl H t t' (ev s) (ev x)
  |_,_=>none
 | .call ⟨.value f,args,ts⟩=>match ev f with
  | .fn (.func _) first cap=>some ⟨inB bl ((first++args.toList.map ev++cap).flatMap S0),S1 bl ((first++args.toList.map ev++cap).flatMap S0),c.new,none,c.f⟩
  |_=>none
 |_=>none
def l9(P:Program)(c:CR)(bl:List Nat)(ev:Operand→D)(H:Heap)(op:Op):Option Ef:=if I2 P op= .pure then(K8 P ev op).map fun d=>val d []else I1 P c bl ev H op
def CR.post(c:CR)(H':Heap)(del:List Nat)(d:D)(H'':Heap):Prop:=match c.new with
 |none=>d=c.val 0∧(H'.minus del).Le H''
 |some o=>∃b,(H' b=none∨b∈del)∧d=c.val b∧((H'.minus del).set b o).Le H''
def B5P(P:Program)(g:Nat)(as_:List D)(H:Heap)(foot del:List Nat)(c:CR):Prop:=
 ∀H':Heap,(∀k cs,H k=some (.ro cs)→H' k=some (.ro cs))→(∀b∈foot,H' b=H b)→ACalls P g as_ H' (c.post H' del)
def O4(P:Program)(c:CR)(bl:List Nat)(ev:Operand→D)(H:Heap)(op:Op):Prop:=match op with
 | .call ⟨.value f,args,ts⟩=>match ev f with
  | .fn (.func g) first cap=>B5P P g (first++args.toList.map ev++cap) H ((first++args.toList.map ev++cap).flatMap S0) (S1 bl ((first++args.toList.map ev++cap).flatMap S0)) c
  |_=>False
 |_=>True
section
variable {P:Program} {c:CR} {bl:List Nat} {bb Bi Bj:Bl} {ev ev':Operand→D} {H H':Heap}
theorem m0{l:List Nat}{b:Nat}:b∈inB bl l↔b∈l∧b∈bl:=by simp[inB]
theorem S2{l:List Nat}{b:Nat}:b∈S1 bl l↔b∈l∧b∉bl:=by simp[S1]
theorem A2q{l:List Operand}(h: ∀x∈l,ev x=ev' x):l.map ev=l.map ev':=List.map_congr_left h
theorem A5z{l:List (Nat×Operand)}(h: ∀x∈l.map (·.2),ev x=ev' x):(l.map fun p=>(p.1,ev p.2))=l.map fun p=>(p.1,ev' p.2):=
 List.map_congr_left fun p hp=>by rw[h p.2 (D1W.2 ⟨p,hp,rfl⟩)]
theorem A1p{op:Op}(hc:I2 P op= .pure)(h: ∀x∈op.operands.toList,ev x=ev' x):K8 P ev op=K8 P ev' op:=by
 cases op
 case build t parts=>
  simp only[K8,A5z (ev:=ev) (ev':=ev') (l:=parts.toList) (fun x hx=>h x (by simpa [Op.operands]using hx))]
 case slice t x lo hi m=>
  have hx:=h x (by simp[Op.operands]);have j:lo.map ev=lo.map ev':=by
   cases lo with
   |none=>rfl
   |some l=>simp only[Option.map_some,h l (by simp[Op.operands])]
  have o:hi.map ev=hi.map ev':=by
   cases hi with
   |none=>rfl
   |some l=>simp only[Option.map_some,h l (by simp[Op.operands])]
  cases m<;>simp only[K8,hx,j,o]
 case makeFunc fn first cap=>
  simp only[K8,A2q (l:=first.toList) (fun x hx=>h x (by simp[Op.operands];exact .inl (by simpa using hx))),A2q (l:=cap.toList) (fun x hx=>h x (by simp[Op.operands];exact .inr (by simpa using hx)))]
 case call cc=>
  obtain⟨callee,args,g⟩:=cc;cases callee with
  |value f=>simp[I2]at hc
  |invoke r m=>simp[I2]at hc
  |builtin b=>
   have i: ∀x∈args.toList,ev x=ev' x:=fun x hx=>h x (by simp[Op.operands,Call.operands]at*;exact hx);cases b<;>try(simp[I2]at hc;done)
   case len=>
    simp only[K8];cases h1:g[0]? with
    |none=>rfl
    |some t=>
     cases p:args[0]? with
     |none=>rfl
     |some x=>simp only[i x (by rw[D1D];exact Array.mem_of_getElem? p)]
   case cap=>
    simp only[K8];cases h1:g[0]? with
    |none=>rfl
    |some t=>
     cases p:args[0]? with
     |none=>rfl
     |some x=>simp only[Option.map_some,i x (by rw[D1D];exact Array.mem_of_getElem? p)]
   case min=>simp only[K8,A2q i]
   case max=>simp only[K8,A2q i]
 all_goals first
  |rfl
  |(simp only[Op.operands,Array.toList_toArray,D00,D01,or_false,d,e]at h;simp only[K8,h];done)
  |(simp only[Op.operands]at h;simp at h;simp only[K8,h];done)
  |(simp[I2]at hc;done)
theorem T8{op:Op}(hc:I2 P op= .pure):l9 P c bl ev H op=(K8 P ev op).map fun d=>val d []:=if_pos hc
theorem I3{op:Op}(hc:I2 P op≠ .pure):l9 P c bl ev H op=I1 P c bl ev H op:=if_neg hc
theorem y0{op:Op}(h: ∀x∈op.operands.toList,ev x=ev' x):l9 P c bl ev H op=l9 P c bl ev' H op:=by
 by_cases hc:I2 P op= .pure
 ·rw[T8 hc,T8 hc,A1p hc h]
 ·rw[I3 hc,I3 hc];cases op
  case load t x=>simp only[I1,h x (by simp[Op.operands])]
  case lookup t m k ok=>simp only[I1,h m (by simp[Op.operands]),h k (by simp[Op.operands])]
  case box t x=>simp only[I1,h x (by simp[Op.operands])]
  case makeSlice t l c=>simp only[I1,h l (by simp[Op.operands]),h c (by simp[Op.operands])]
  case buildSlice t n parts=>simp only[I1,A5z (ev:=ev) (ev':=ev') (l:=parts.toList) (fun x hx=>h x (by simpa [Op.operands]using hx))]
  case store t a x=>simp only[I1,h a (by simp[Op.operands]),h x (by simp[Op.operands])]
  case call cc=>
   obtain⟨callee,args,e⟩:=cc;cases callee with
   |value f=>
    have g:=h f (by simp[Op.operands,Call.operands]);have i:=A2q (ev:=ev) (ev':=ev') (l:=args.toList) (fun x hx=>h x (by simp[Op.operands,Call.operands];exact .inr (by simpa using hx)));simp only[I1,g,i]
   |invoke r m=>simp[I1]
   |builtin b=>
    cases b
    case append=>
     unfold I1;simp only;split
     ·rename_i t j s x h1 d;rw[h s (by simp[Op.operands,Call.operands,←D1D,d]),h x (by simp[Op.operands,Call.operands,←D1D,d])]
     ·rfl
    all_goals rfl
  case makeMap t r=>cases r<;>simp[I1]
  all_goals first
   |rfl
theorem n8{op:Op}(h: ∀x∈op.operands.toList,ev x=ev' x):O4 P c bl ev H op=O4 P c bl ev' H op:=by
 cases op
 case call cc=>
  obtain⟨callee,args,d⟩:=cc;cases callee with
  |value f=>
   have e:=h f (by simp[Op.operands,Call.operands]);have g:=A2q (ev:=ev) (ev':=ev') (l:=args.toList) (fun x hx=>h x (by simp[Op.operands,Call.operands];exact .inr (by simpa using hx)));simp only[O4,e,g]
  |_=>rfl
 all_goals rfl
def B2h(ev:Operand→D)(op:Op):List Nat:=op.operands.toList.flatMap fun x=>rdB (ev x)
theorem M6{op:Op}{x:Operand}{b:Nat}(hx:x∈op.operands.toList)(hb:b∈rdB (ev x)):b∈B2h ev op:=List.mem_flatMap.2 ⟨x,hx,hb⟩
theorem A9q{sz:Nat}{x:D}{es:List (List D)}(h:L6 H sz x=some es)(d: ∀b∈S0 x,H' b=H b):L6 H' sz x=some es:=by
 cases x<;>simp only[L6]at h⊢ <;>try exact h
 rename_i b s lo n;rw[d b (by simp[S0])];exact h
theorem A7H{x:D}{cs:List D}(h:A34 H x=some cs)(d: ∀b∈rdB x,H' b=H b):A34 H' x=some cs:=by
 cases x<;>simp only[A34]at h⊢ <;>try exact h
 all_goals (rw[d _ (by simp[rdB])];exact h)
theorem B3y{x:D}{kvs:List (D×D)}(h:X7 H x=some kvs)(d: ∀b∈rdB x,H' b=H b):X7 H' x=some kvs:=by
 cases x<;>simp only[X7]at h⊢ <;>try exact h
 all_goals (rw[d _ (by simp[rdB])];exact h)
theorem A2r{op:Op}{e:Ef}(h:l9 P c bl ev H op=some e)(q: ∀b,b∈e.rd∨b∈e.del→H' b=H b):l9 P c bl ev H' op=some e:=by
  by_cases hc:I2 P op= .pure
  · rw[T8 hc]at h⊢;exact h
  · rw[I3 hc]at h⊢
    cases op
    case load t x=>
      simp only[I1,D0h]at h⊢;obtain⟨d,g,rfl⟩:=h;refine⟨d,?_,rfl⟩;unfold w9 at g⊢;obtain⟨s,hs,g⟩:=D0k.1 g;obtain⟨cs,u,g⟩:=D0k.1 g;rw[hs,D02,A7H u (fun b hb=>q b (.inl hb))];exact g
    case lookup t m k ok=>
      simp only[I1,D0h]at h⊢;obtain⟨d,g,rfl⟩:=h;refine⟨d,?_,rfl⟩;unfold A1G at g⊢;obtain⟨T,U,g⟩:=D0k.1 g;rw[U,D02];split at g
      · rename_i hk
        rw[if_pos hk];obtain⟨z,X,g⟩:=D0k.1 g;obtain⟨kvs,I,g⟩:=D0k.1 g;rw[X,D02,B3y I (fun b hb=>q b (.inl hb))];exact g
      · cases g
    case alloc t=>exact h
    case box t x=>exact h
    case makeSlice t l c=>exact h
    case buildSlice t n parts=>exact h
    case store t a x=>
      simp only[I1,l8]at h⊢;obtain⟨Y,hs,h⟩:=D0k.1 h
      have key: ∀b,(ev a= .box b 0∨True)→rdB (ev a)= [b]→H' b=H b→∃O,Y4 P t (ev a) (ev x) H'=some O∧O b=Y b:=by
        intro b _ J hb;unfold Y4 at hs⊢;split at hs
        · rename_i j
          rw[if_pos j];split at hs
          · rename_i L off y
            have : L = b := by have:rdB (ev a)= [L]:=by rw[y];rfl
                               rw[J]at this;simpa using this.symm
            subst this;rw[hb];split at hs
            · rename_i cs Z u
              split at hs
              · rename_i A
                cases hs;refine⟨_,by rw[if_pos A],?_⟩;simp[Heap.set]
              · cases hs
            · cases hs
          · rename_i L sz i off y
            have : L = b := by have:rdB (ev a)= [L]:=by rw[y];rfl
                               rw[J]at this;simpa using this.symm
            subst this;rw[hb];split at hs
            · rename_i sz' es u
              split at hs
              · rename_i A
                cases hs;refine⟨_,by rw[if_pos A],?_⟩;simp[Heap.set]
              · cases hs
            · cases hs
          · cases hs
        · cases hs
      cases C:ev a with
      |box b off=>
        rw[C]at h;simp only at h;obtain⟨o,ho,rfl⟩:=D0h.1 h;obtain⟨O,G,V⟩:=key b (.inr trivial) (by rw[C];rfl) (q b (.inr (by simp)));rw[C]at G;rw[G,D02];simp only[V,ho,Option.map_some]
      |el b sz i off=>
        rw[C]at h;simp only at h;obtain⟨o,ho,rfl⟩:=D0h.1 h;obtain⟨O,G,V⟩:=key b (.inr trivial) (by rw[C];rfl) (q b (.inr (by simp)));rw[C]at G;rw[G,D02];simp only[V,ho,Option.map_some]
      |_=>rw[C]at h;simp at h
    case call cc=>
      obtain⟨callee,args,a0⟩:=cc;cases callee with
      |value f=>exact h
      |invoke r m=>simp[I1]at h
      |builtin b=>
        cases b
        case append=>
          unfold I1 at h⊢;simp only at h⊢;split at h
          · rename_i t t' s x h1 G
            unfold B1a at h⊢;obtain⟨T,U,h⟩:=D0k.1 h;rw[U,D02];split at h
            · rename_i j
              rw[if_pos j];obtain⟨xs,W,h⟩:=D0k.1 h;have hx: ∀b,b∈S0 (ev x)→(b∈e.rd∨b∈e.del)→H' b=H b:=fun b _ hb=>q b hb
              have M: ∀b∈S0 (ev x),b∈e.rd∨b∈e.del:=by
                intro b hb;split at h
                · split at h
                  · cases h
                    by_cases p:b∈bl
                    · exact .inl (m0.2 ⟨hb,p⟩)
                    · exact .inr (S2.2 ⟨hb,p⟩)
                  · cases h
                · split at h
                  · split at h
                    · cases h
                      by_cases p:b∈bl
                      · exact .inl (m0.2 ⟨hb,p⟩)
                      · exact .inr (D0q _ (S2.2 ⟨hb,p⟩))
                    · cases h
                  · cases h
                · cases h
              rw[A9q W (fun b hb=>q b (M b hb)),D02];cases hs:ev s with
              |vec b sz' lo n=>
                rw[hs]at h;simp only at h⊢
                have hb:H' b=H b:=by
                  split at h
                  · split at h
                    · cases h;exact q b (.inr (by simp))
                    · cases h
                  · cases h
                rw[hb];exact h
              |_=>rw[hs]at h;exact h
            · cases h
          · cases h
        all_goals cases h
    case makeMap t r=>
      cases r with
      |none=>exact h
      |some r=>simp[I1]at h
    all_goals cases h
theorem A3O{op:Op}{e:Ef}(h:O4 P c bl ev H op)(hr:l9 P c bl ev H op=some e)(hro: ∀k cs,H' k=some (.ro cs)→H k=some (.ro cs))(d: ∀k cs,H k=some (.ro cs)→H' k=some (.ro cs))(j: ∀b,b∈e.rd∨b∈e.del→H' b=H b):O4 P c bl ev H' op:=by
 cases op
 case call cc=>
  obtain⟨callee,args,m⟩:=cc;cases callee with
  |value f=>
   rw[I3 (by simp[I2])]at hr;simp only[O4,I1]at h hr⊢;split at h
   ·rename_i g first cap hf
    rw[hf]at hr;simp only[D1A]at hr;subst hr;intro o h1 p;refine h o (fun k cs hk=>h1 k cs (d k cs hk)) (fun b hb=>?_);rw[p b hb];by_cases i:b∈bl
    ·exact j b (.inl (m0.2 ⟨hb,i⟩))
    ·exact j b (.inr (S2.2 ⟨hb,i⟩))
   ·exact h
  |_=>exact h
 all_goals exact h
theorem B3z{op:Op}{e:Ef}(h:l9 P c bl ev H op=some e): ∀b,b∈e.rd∨b∈e.del→b∈B2h ev op:=by
 by_cases hc:I2 P op= .pure
 ·rw[T8 hc]at h;obtain⟨d,_,rfl⟩:=D0h.1 h;intro b hb;simp[val]at hb
 ·rw[I3 hc]at h;cases op
  case load t x=>
   simp only[I1,D0h]at h;obtain⟨d,j,rfl⟩:=h;intro b hb;simp[val]at hb;exact M6 (x:=x) (by simp[Op.operands]) hb
  case lookup t m k ok=>
   simp only[I1,D0h]at h;obtain⟨d,j,rfl⟩:=h;intro b hb;simp[val]at hb;exact M6 (x:=m) (by simp[Op.operands]) hb
  case alloc t=>
   simp only[I1,D0h]at h;obtain⟨d,j,rfl⟩:=h;intro b hb;simp[A0s]at hb
  case box t x=>
   simp only[I1]at h;split at h
   ·cases h;intro b hb;simp[A0s]at hb
   ·cases h
  case makeSlice t l c=>
   simp only[I1]at h;obtain⟨_,_,_,_,_,_,_,_,_,_,_,_,_,_,_,_,_,_,rfl⟩:=A5M h;intro b hb;simp[A0s]at hb
  case buildSlice t n parts=>
   simp only[I1,bsE]at h;obtain⟨T,G,h⟩:=D0k.1 h;split at h
   ·obtain⟨z,L,h⟩:=D0k.1 h;split at h
    ·obtain⟨es,I,rfl⟩:=D0h.1 h;intro b hb;simp[A0s]at hb
    ·cases h
   ·cases h
  case store t a x=>
   simp only[I1,l8]at h;obtain⟨M,hs,h⟩:=D0k.1 h;cases q:ev a with
   |box b off=>
    rw[q]at h;simp only at h;obtain⟨o,ho,rfl⟩:=D0h.1 h;intro k hk;simp at hk;subst hk;exact M6 (x:=a) (by simp[Op.operands]) (by rw[q];simp[rdB])
   |el b sz i off=>
    rw[q]at h;simp only at h;obtain⟨o,ho,rfl⟩:=D0h.1 h;intro k hk;simp at hk;subst hk;exact M6 (x:=a) (by simp[Op.operands]) (by rw[q];simp[rdB])
   |_=>rw[q]at h;simp at h
  case call cc=>
   obtain⟨callee,args,u⟩:=cc;cases callee with
   |value f=>
    simp only[I1]at h;split at h
    ·rename_i g first cap hf
     cases h;intro b hb;have y:b∈(first++args.toList.map ev++cap).flatMap S0:=by
      rcases hb with hb|hb
      ·exact(m0.1 hb).1
      ·exact(S2.1 hb).1
     obtain⟨d,j,p⟩:=List.mem_flatMap.1 y;simp only[D0y,D1W]at j;rcases j with(j|⟨x,hx,rfl⟩)|j
     ·exact M6 (x:=f) (by simp[Op.operands,Call.operands]) (by rw[hf];exact List.mem_flatMap.2 ⟨d,by simp[j],p⟩)
     ·exact M6 (x:=x) (by simp[Op.operands,Call.operands];exact .inr (by simpa using hx)) (A1o p)
     ·exact M6 (x:=f) (by simp[Op.operands,Call.operands]) (by rw[hf];exact List.mem_flatMap.2 ⟨d,by simp[j],p⟩)
    ·cases h
   |invoke r m=>simp[I1]at h
   |builtin b=>
    cases b
    case append=>
     unfold I1 at h;simp only at h;split at h
     ·rename_i t O s x h1 C;have hs:s∈(Op.call ⟨.builtin .append,args,u⟩).operands.toList:=by simp[Op.operands,Call.operands,←D1D,C]
      have hx:x∈(Op.call ⟨.builtin .append,args,u⟩).operands.toList:=by simp[Op.operands,Call.operands,←D1D,C]
      unfold B1a at h;obtain⟨T,G,h⟩:=D0k.1 h;split at h
      ·obtain⟨xs,J,h⟩:=D0k.1 h;split at h
       ·split at h
        ·cases h;intro b hb;rcases hb with hb|hb
         ·exact M6 hx (A1o (m0.1 hb).1)
         ·exact M6 hx (A1o (S2.1 hb).1)
        ·cases h
       ·rename_i U sz' lo n A;split at h
        ·split at h
         ·cases h;intro b hb;rcases hb with hb|hb
          ·exact M6 hx (A1o (m0.1 hb).1)
          ·rcases D00.1 hb with rfl|hb
           ·exact M6 hs (by rw[A];simp[rdB])
           ·exact M6 hx (A1o (S2.1 hb).1)
         ·cases h
        ·cases h
       ·cases h
      ·cases h
     ·cases h
    all_goals cases h
  case makeMap t r=>
   cases r with
   |none=>simp only[I1,D1A]at h;subst h;intro b hb;simp[A0s]at hb
   |some r=>simp[I1]at h
  all_goals cases h
abbrev Kf:=FEnv→Heap→(Nat→Prop)→Prop
def H9(gs:List (Option Nat))(j:Nat):Option Nat:=(gs[j]?).getD none
def A1q(E:Env)(s:Option Nat)(want:Bool)(run skip:Env→Prop):Prop:=match s with
 |none=>skip E
 |some s=>(E.get s= .tuple []∧skip E)∨∃b,E.get s= .bool b∧(b=want→run ((s,.bool want)::E))∧(b= !want→skip ((s,.bool (!want))::E))
def A2f(gs:List (Option Nat))(F:FEnv):Option (Nat×Bool)→Option Bool
 |none=>some true
 |some (j,want)=>match H9 gs j with
  |none=>some false
  |some s=>match F s with
   | .tuple []=>some false
   | .bool b=>some (b==want)
   |_=>none
def A0O(P:Program)(c:CR)(bl:Bl)(o:Oper)(K:Kf):Kf:=fun F H U=>∃e,l9 P c bl.l F.ev H o.op=some e∧A5y bl H e∧O4 P c bl.l F.ev H o.op∧
 ∀b,e.okB b U→K (F.put o.dst (e.val b)) (e.app b H) (e.used b U)
def A0P(P:Program)(gs:List (Option Nat))(c:CR)(bl:Bl)(o:Oper)(K:Kf):Kf:=fun F H U=>(A2f gs F o.guard=some true∧A0O P c bl o K F H U)∨(A2f gs F o.guard=some false∧K (F.put o.dst (.tuple [])) H U)
theorem A1J{o:Oper}{K d:Kf}{F:FEnv}{H:Heap}{U:Nat→Prop}(h: ∀v H U,K (F.put o.dst v) H U→d (F.put o.dst v) H U)(hk:A0O P c bb o K F H U):A0O P c bb o d F H U:=
 let ⟨e,h2,h3,h4,h5⟩:=hk;⟨e,h2,h3,h4,fun b hb=>h _ _ _ (h5 b hb)⟩
theorem A1K{d:List (Option Nat)}{o:Oper}{K e:Kf}(h: ∀F H U,K F H U→e F H U){F:FEnv}{H:Heap}{U:Nat→Prop}(hk:A0P P d c bb o K F H U):A0P P d c bb o e F H U:=
 hk.imp (fun hk=>⟨hk.1,A1J (fun _ _ _=>h _ _ _) hk.2⟩) fun hk=>⟨hk.1,h _ _ _ hk.2⟩
theorem C2J{F:FEnv}{dst:Option Tmp}{d:D}{x:Operand}(h: ∀t,dst=some t→x≠ .tmp t):(F.put dst d).ev x=F.ev x:=by
 cases dst with
 |none=>rfl
 |some t=>
  cases x with
  |tmp u=>
   have:t≠u:=fun e=>h t rfl (by rw[e]);simp[FEnv.ev,FEnv.put,this]
  |_=>rfl
theorem Q3{F:FEnv}{ops:Array Oper}{o:Oper}{dst:Option Tmp}{d:D}(h: ∀t,dst=some t→t∉o.looksAt ops): ∀x∈o.op.operands.toList,(F.put dst d).ev x=F.ev x:=fun x hx=>
 C2J fun t g e=>h t g (by subst e;exact List.mem_append_left _ (List.mem_filterMap.2 ⟨.tmp t,hx,rfl⟩))
theorem A1r{F:FEnv}{x y:Option Tmp}{d d':D}(h: ∀t,x=some t→y≠some t):(F.put x d).put y d'=(F.put y d').put x d:=by
 funext k
 cases x with
 |none=>rfl
 |some t=>
  cases y with
  |none=>rfl
  |some u=>
   have:t≠u:=fun e=>h t rfl (by rw[e]);simp only[FEnv.put];by_cases h1:t=k<;>by_cases g:u=k<;>simp[h1,g];exact absurd (h1.trans g.symm) this
structure Dom(H:Heap)(U:Nat→Prop):Prop where
 dom: ∀b,H b≠none→U b
 fin: ∀l:List Nat,∃b,¬U b∧b∉l
theorem Dom.app{H:Heap}{U:Nat→Prop}(h:Dom H U){e:Ef}{b:Nat}(hb:e.okB b U):Dom (e.app b H) (e.used b U):=by
 have hm: ∀k,(H.minus e.del) k≠none→U k:=fun k hk=>h.dom k fun i=>hk (by unfold Heap.minus;split;rfl;exact i);unfold Ef.app Ef.used;cases hn:e.new with
 |none=>exact⟨hm,h.fin⟩
 |some o=>
  refine⟨fun k hk=>?_,fun l=>?_⟩
  ·by_cases d:k=b
   ·exact .inr d
   ·simp only[Heap.set,if_neg d]at hk;exact .inl (hm k hk)
  ·obtain⟨x,h1,g⟩:=h.fin (b::l);simp only[D00,not_or]at g;exact⟨x,fun hx=>hx.elim h1 g.1,g.2⟩
theorem A2H{e:Ef}{b k:Nat}{H:Heap}(d:k∉e.del)(hb:e.new≠none→k≠b):e.app b H k=H k:=by
 unfold Ef.app;cases hn:e.new with
 |none=>simp[Heap.minus,d]
 |some o=>simp[Heap.set,Heap.minus,d,hb (by rw[hn];simp)]
theorem B5Q{e:Ef}{b k:Nat}{H:Heap}{cs:List D}(h:A5y bb H e)(hk:e.app b H k=some (.ro cs)):H k=some (.ro cs):=by
 unfold Ef.app at hk;have hm:(H.minus e.del) k=some (.ro cs)→H k=some (.ro cs):=fun hk=>by
  unfold Heap.minus at hk;split at hk
  ·cases hk
  ·exact hk
 cases hn:e.new with
 |none=>rw[hn]at hk;exact hm hk
 |some o=>
  rw[hn]at hk;simp only[Heap.set]at hk;split at hk
  ·cases hk;have:=h.new _ hn;simp[Obj.rw]at this
  ·exact hm hk
theorem B2i{e:Ef}{b k:Nat}{H:Heap}{U:Nat→Prop}{cs:List D}(h:A5y bb H e)(j: ∀b,H b≠none→U b)(hb:e.okB b U)(hk:H k=some (.ro cs)):e.app b H k=some (.ro cs):=by
 have i:k∉e.del:=fun i=>by have:=(h.del k i).2;rw[hk]at this;simp[B1Z,Obj.rw]at this
 rw[A2H i fun hn he=>?_]
 ·exact hk
 ·subst he;unfold Ef.okB at hb;cases d:e.new with
  |none=>exact hn d
  |some o=>
   rw[d]at hb;cases g:e.at_ with
   |none=>
    rw[g]at hb;rcases hb with hb|hb
    ·exact hb (j k (by rw[hk];simp))
    ·exact i hb
   |some c=>
    rw[g]at hb;subst hb;exact i (h.at_ _ g)
theorem B5R{i j:Ef}{bi e:Nat}{H:Heap}(h1: ∀b∈i.del,b∉j.del)(g:i.new≠none→j.new≠none→bi≠e)(h:i.new≠none→bi∉j.del)(d:j.new≠none→e∉i.del):j.app e (i.app bi H)=i.app bi (j.app e H):=by
 funext k
 unfold Ef.app;cases q:i.new with
 |none=>
  cases m:j.new with
  |none=>simp only[Heap.minus];by_cases x:k∈i.del<;>by_cases y:k∈j.del<;>simp[x,y]
  |some o=>
   rw[m]at d;have d:=d (by simp);simp only[Heap.minus,Heap.set];by_cases z:k=e
   ·subst z;simp[d]
   ·by_cases x:k∈i.del<;>by_cases y:k∈j.del<;>simp[x,y,z]
 |some r=>
  rw[q]at g h;have h:=h (by simp);cases m:j.new with
  |none=>
   simp only[Heap.minus,Heap.set];by_cases z:k=bi
   ·subst z;simp[h]
   ·by_cases x:k∈i.del<;>by_cases y:k∈j.del<;>simp[x,y,z]
  |some o=>
   rw[m]at g d;have d:=d (by simp);have g:=g (by simp) (by simp);simp only[Heap.minus,Heap.set];by_cases z:k=bi
   ·subst z;simp[h,g]
   ·by_cases p:k=e
    ·subst p;simp[d,z]
    ·by_cases x:k∈i.del<;>by_cases y:k∈j.del<;>simp[x,y,z,p]
theorem A9r{e:Ef}{b k:Nat}{U:Nat→Prop}(h:U k):e.used b U k:=by
 unfold Ef.used;cases e.new with
 |none=>exact h
 |some o=>exact .inl h
theorem B5S{e:Ef}{b:Nat}{U:Nat→Prop}(h:e.new≠none):e.used b U b:=by
 unfold Ef.used;cases hn:e.new with
 |none=>exact absurd hn h
 |some o=>exact .inr rfl
theorem used_inv{e:Ef}{b k:Nat}{U:Nat→Prop}(h:e.used b U k):U k∨(e.new≠none∧k=b):=by
 unfold Ef.used at h;cases hn:e.new with
 |none=>rw[hn]at h;exact .inl h
 |some o=>rw[hn]at h;exact h.imp id fun h=>⟨by simp,h⟩
theorem B30{i j:Ef}{bi d:Nat}{U:Nat→Prop}:j.used d (i.used bi U)=i.used bi (j.used d U):=by
 unfold Ef.used;cases i.new<;>cases j.new<;>try rfl
 funext k
 apply propext;simp only[or_assoc,or_comm (a:=k=bi)]
def A0t(P:Program)(oi oj:Op):Bool:=(!A1C oi||I2 P oj== .pure)&&(!A1C oj||I2 P oi== .pure)
theorem A9s{o:Op}{e:Ef}{ev:Operand→D}{H:Heap}(h:l9 P c bl ev H o=some e)(hs:A1C o=false):e.at_=none:=by
 by_cases hc:I2 P o= .pure
 ·rw[T8 hc]at h;obtain⟨d,_,rfl⟩:=D0h.1 h;rfl
 ·rw[I3 hc]at h;cases o
  case load t x=>simp only[I1,D0h]at h;obtain⟨d,_,rfl⟩:=h;rfl
  case lookup t m k ok=>simp only[I1,D0h]at h;obtain⟨d,_,rfl⟩:=h;rfl
  case alloc t=>simp only[I1,D0h]at h;obtain⟨d,_,rfl⟩:=h;rfl
  case box t x=>simp only[I1]at h;split at h<;>cases h;rfl
  case makeSlice t l c=>
   simp only[I1]at h;obtain⟨_,_,_,_,_,_,_,_,_,_,_,_,_,_,_,_,_,_,rfl⟩:=A5M h;rfl
  case buildSlice t n parts=>
   simp only[I1,bsE]at h;obtain⟨T,g,h⟩:=D0k.1 h;split at h
   ·obtain⟨z,q,h⟩:=D0k.1 h;split at h
    ·obtain⟨es,i,rfl⟩:=D0h.1 h;rfl
    ·cases h
   ·cases h
  case store t a x=>simp[A1C]at hs
  case call cc=>
   obtain⟨callee,args,j⟩:=cc;cases callee with
   |value f=>
    simp only[I1]at h;split at h<;>cases h;rfl
   |invoke r m=>simp[I1]at h
   |builtin b=>
    cases b
    case append=>
     unfold I1 at h;simp only at h;split at h
     ·unfold B1a at h;obtain⟨T,g,h⟩:=D0k.1 h;split at h
      ·obtain⟨xs,p,h⟩:=D0k.1 h;split at h
       ·split at h<;>cases h;rfl
       ·split at h
        ·split at h<;>cases h;rfl
        ·cases h
       ·cases h
      ·cases h
     ·cases h
    all_goals cases h
  case makeMap t r=>
   cases r with
   |none=>simp only[I1,D1A]at h;subst h;rfl
   |some r=>simp[I1]at h
  all_goals cases h
theorem A2I{o:Op}{e:Ef}{ev:Operand→D}{H:Heap}(h:l9 P c bl ev H o=some e)(hc:I2 P o= .pure):e.rd= []∧e.del= []∧e.new=none:=by
 rw[T8 hc]at h;obtain⟨d,_,rfl⟩:=D0h.1 h;exact⟨rfl,rfl,rfl⟩
theorem B1b{ops:Array Oper}{X oj:Oper}{ci cj:CR}{K:Kf}{F:FEnv}{H:Heap}{U:Nat→Prop}(c6:X.apart ops oj=true)(G:A0t P X.op oj.op=true)(hB:A4D Bi Bj)(hD:Dom H U)
  (h:A0O P ci Bi X (A0O P cj Bj oj K) F H U):A0O P cj Bj oj (A0O P ci Bi X K) F H U:=by
 obtain⟨c7,a9⟩:=hB;obtain⟨a1,a2,a3⟩:=Oper.apart_spec c6;obtain⟨j,ri,m,Y,hi⟩:=h;simp only[A0t,D0l,D1v,Bool.not_eq_true',beq_iff_eq]at G
 --a name for the first one's block that the second one does not name
 obtain⟨I,b1,b2⟩: ∃I,j.okB I U∧(j.new≠none→j.at_=none→I∉B2h F.ev oj.op∧¬U I):=by
  obtain⟨x,b3,c8⟩:=hD.fin (B2h F.ev oj.op);cases hn:j.new with
  |none=>exact⟨x,by unfold Ef.okB;rw[hn];trivial,fun h=>absurd rfl h⟩
  |some o=>
   cases q:j.at_ with
   |none=>exact⟨x,by unfold Ef.okB;rw[hn,q];exact .inl b3,fun _ _=>⟨c8,b3⟩⟩
   |some y=>exact⟨y,by unfold Ef.okB;rw[hn,q],fun _ h=>by cases h⟩
 have O: ∀y,j.at_=some y→I2 P oj.op= .pure:=fun y hy=>by
  rcases G.1 with h|h
  ·rw[A9s ri h]at hy;cases hy
  ·exact h
 obtain⟨p,rj,u,a0,_⟩:=hi I b1;have C:l9 P cj Bj.l F.ev (j.app I H) oj.op=some p:=by rw[←rj];exact(y0 (Q3 a1)).symm
 have c9:O4 P cj Bj.l F.ev (j.app I H) oj.op:=by rw[←n8 (Q3 (F:=F) (d:=j.val I) a1)];exact a0
 have b4: ∀y,p.at_=some y→I2 P X.op= .pure:=fun y hy=>by
  rcases G.2 with h|h
  ·rw[A9s C h]at hy;cases hy
  ·exact h
 --what the second one names,the first one lets be
 have b6: ∀b,b∈p.rd∨b∈p.del→j.new≠none→b≠I:=fun b hb hn he=>by
  subst he;cases q:j.at_ with
  |none=>exact(b2 hn q).1 (B3z C b hb)
  |some y=>
   obtain⟨e1,e2,_⟩:=A2I C (O y q);rw[e1,e2]at hb;simp at hb
 have J: ∀b∈p.del,b∉j.del:=fun b hb e=>by
  have h1:=(u.del b hb).2;have h2:j.app I H b=none:=by
   unfold Ef.app;cases hn:j.new with
   |none=>simp[Heap.minus,e]
   |some o=>simp[Heap.set,Heap.minus,e,b6 b (.inr hb) (by rw[hn];simp)]
  rw[h2]at h1;cases h1
 have a4: ∀b∈p.rd,b∉j.del:=fun b hb e=>by
  cases q:j.at_ with
  |none=>
   have V:=c7 b (u.rd b hb).1.1 (u.rd b hb).2;rcases(m.del b e).1 q with g|g
   ·exact g V.1
   ·exact V.2 g
  |some y=>rw[(A2I C (O y q)).1]at hb;cases hb
 have z: ∀b,b∈p.rd∨b∈p.del→j.app I H b=H b:=fun b hb=>A2H (hb.elim (a4 b) (J b)) (b6 b hb);have b7:l9 P cj Bj.l F.ev H oj.op=some p:=A2r C fun b hb=>(z b hb).symm;have r:A5y Bj H p:=⟨fun b hb=>⟨⟨(u.rd b hb).1.1,by rw[←z b (.inl hb)];exact(u.rd b hb).1.2⟩,(u.rd b hb).2⟩,fun b hb=>⟨(u.del b hb).1,by rw[←z b (.inr hb)];exact(u.del b hb).2⟩,u.new,u.at_⟩
 have d0:O4 P cj Bj.l F.ev H oj.op:=A3O c9 C (fun k cs hk=>B2i m hD.dom b1 hk) (fun k cs hk=>B5Q m hk) (fun b hb=>(z b hb).symm);refine⟨p,b7,r,d0,fun L i=>?_⟩
 --the first one behind the second one
 have b8: ∀b,B1Z (H b)=true→U b:=fun b hb=>hD.dom b fun h=>by rw[h]at hb;cases hb
 have a5: ∀b,b∈j.rd∨b∈j.del→p.new≠none→b≠L:=fun b hb hn he=>by
  subst he;unfold Ef.okB at i;cases W:p.new with
  |none=>exact hn W
  |some o=>
   rw[W]at i;cases q:p.at_ with
   |none=>
    rw[q]at i;rcases i with i|i
    ·rcases hb with hb|hb
     ·exact i (hD.dom b (m.rd b hb).1.2)
     ·exact i (b8 b (m.del b hb).2)
    ·rcases hb with hb|hb
     ·have V:=a9 b (m.rd b hb).1.1 (m.rd b hb).2;rcases(r.del b i).1 q with g|g
      ·exact g V.1
      ·exact V.2 g
     ·exact J b i hb
   |some y=>
    obtain⟨e1,e2,_⟩:=A2I ri (b4 y q);rw[e1,e2]at hb;simp at hb
 have b9: ∀b,b∈j.rd∨b∈j.del→b∉p.del:=fun b hb i=>by
  rcases hb with hb|hb
  ·cases q:p.at_ with
   |none=>
    have V:=a9 b (m.rd b hb).1.1 (m.rd b hb).2;rcases(r.del b i).1 q with g|g
    ·exact g V.1
    ·exact V.2 g
   |some y=>rw[(A2I ri (b4 y q)).1]at hb;cases hb
  ·exact J b i hb
 have A: ∀b,b∈j.rd∨b∈j.del→p.app L H b=H b:=fun b hb=>A2H (b9 b hb) (a5 b hb);have d2:l9 P ci Bi.l (F.put oj.dst (p.val L)).ev (p.app L H) X.op=some j:=by
  rw[y0 (Q3 a3)];exact A2r ri A
 have c0:A5y Bi (p.app L H) j:=⟨fun b hb=>⟨⟨(m.rd b hb).1.1,by rw[A b (.inl hb)];exact(m.rd b hb).1.2⟩,(m.rd b hb).2⟩,fun b hb=>⟨(m.del b hb).1,by rw[A b (.inr hb)];exact(m.del b hb).2⟩,m.new,m.at_⟩
 have d3:O4 P ci Bi.l (F.put oj.dst (p.val L)).ev (p.app L H) X.op:=by
  rw[n8 (Q3 a3)];exact A3O Y ri (fun k cs hk=>B5Q r hk) (fun k cs hk=>B2i r hD.dom i hk) A
 refine⟨j,d2,c0,d3,fun bi e=>?_⟩
 --the names are apart
 have c1:j.okB bi U:=by
  unfold Ef.okB at e⊢;cases hn:j.new with
  |none=>trivial
  |some o=>
   rw[hn]at e;cases q:j.at_ with
   |none=>
    rw[q]at e;exact e.imp (fun h hU=>h (A9r hU)) id
   |some y=>rw[q]at e;exact e
 have c2:j.new≠none→p.new≠none→bi≠L:=fun hn hm he=>by
  subst he;unfold Ef.okB at e;cases M:j.new with
  |none=>exact hn M
  |some o=>
   rw[M]at e;cases q:j.at_ with
   |none=>
    rw[q]at e;rcases e with e|e
    ·exact e (B5S hm)
    ·exact a5 bi (.inr e) hm rfl
   |some y=>exact hm (A2I C (O y q)).2.2
 have c3: ∀b,b∈p.rd∨b∈p.del→j.new≠none→b≠bi:=fun b hb hn he=>by
  subst he;unfold Ef.okB at e;cases M:j.new with
  |none=>exact hn M
  |some o=>
   rw[M]at e;cases q:j.at_ with
   |none=>
    rw[q]at e;rcases e with e|e
    ·apply e;have:U b:=by
      rcases hb with hb|hb
      ·exact hD.dom b (r.rd b hb).1.2
      ·exact b8 b (r.del b hb).2
     exact A9r this
    ·exact b9 b (.inr e) (by rcases hb with hb|hb;exact absurd e (a4 b hb);exact hb)
   |some y=>
    obtain⟨e1,e2,_⟩:=A2I C (O y q);rw[e1,e2]at hb;simp at hb
 obtain⟨T,c4,d7,d8,hj⟩:=hi bi c1;have a6: ∀b,b∈p.rd∨b∈p.del→j.app bi H b=H b:=fun b hb=>A2H (hb.elim (a4 b) (J b)) (c3 b hb);have d4:T=p:=by
  rw[y0 (Q3 a1)]at c4;have:=A2r b7 a6;rw[c4]at this;exact Option.some.inj this
 subst d4;have c5:T.okB L (j.used bi U):=by
  unfold Ef.okB at i⊢;cases hn:T.new with
  |none=>trivial
  |some o=>
   rw[hn]at i;cases q:T.at_ with
   |none=>
    rw[q]at i;refine i.imp (fun h hU=>?_) id;rcases used_inv hU with hU|⟨d5,hU⟩
    ·exact h hU
    ·exact c2 d5 (by rw[hn];simp) hU.symm
   |some y=>rw[q]at i;exact i
 have:=hj L c5;rw[A1r a2,B5R (fun b hb d6=>J b d6 hb) c2 (fun hn hb=>c3 bi (.inr hb) hn rfl) (fun hn hb=>a5 L (.inr hb) hn rfl),B30]at this;exact this
abbrev O5(ops:Array Oper):List (Option Nat):=ops.toList.map (·.dst)
theorem B2j(ops:Array Oper)(j:Nat):H9 (O5 ops) j=(ops[j]?).bind (·.dst):=by
 unfold H9;rw[D0v];cases d:ops[j]? with
 |none=>simp[d]
 |some o=>simp[d]
theorem A9t{ops:Array Oper}{F:FEnv}{o:Oper}{dst:Option Tmp}{d:D}(h: ∀t,dst=some t→t∉o.looksAt ops):A2f (O5 ops) (F.put dst d) o.guard=A2f (O5 ops) F o.guard:=by
 cases m:o.guard with
 |none=>rfl
 |some p=>
  obtain⟨j,i⟩:=p;unfold A2f;simp only[];rw[B2j];cases hs:(ops[j]?).bind (·.dst)with
  |none=>rfl
  |some s=>
   simp only[];cases dst with
   |none=>rfl
   |some t=>
    have g:t≠s:=fun e=>h t rfl (by subst e;simp[Oper.looksAt,m,hs]);simp only[FEnv.put,if_neg g]
theorem B31{ops:Array Oper}{i oj:Oper}{u A:CR}{K:Kf}{F:FEnv}{H:Heap}{U:Nat→Prop}(m:i.apart ops oj=true)(j:A0t P i.op oj.op=true)(L:A4D Bi Bj)(J:Dom H U)
  (h:A0P P (O5 ops) u Bi i (A0P P (O5 ops) A Bj oj K) F H U):A0P P (O5 ops) A Bj oj (A0P P (O5 ops) u Bi i K) F H U:=by
 obtain⟨a1,a2,a3⟩:=Oper.apart_spec m;have p: ∀v,A2f (O5 ops) (F.put i.dst v) oj.guard=A2f (O5 ops) F oj.guard:=fun v=>A9t a1;have z: ∀v,A2f (O5 ops) (F.put oj.dst v) i.guard=A2f (O5 ops) F i.guard:=fun v=>A9t a3;rcases h with⟨hr,h⟩|⟨hr,h⟩
 ·
  cases q:A2f (O5 ops) F oj.guard with
  |none=>
   exfalso;obtain⟨e,_,_,_,h5⟩:=h;obtain⟨x,hx,_⟩:=J.fin [];obtain⟨b,hb⟩: ∃b,e.okB b U:=by
    unfold Ef.okB;cases e.new with
    |none=>exact⟨x,trivial⟩
    |some o=>
     cases e.at_ with
     |none=>exact⟨x,.inl hx⟩
     |some y=>exact⟨y,rfl⟩
   rcases h5 b hb with⟨g,_⟩|⟨g,_⟩<;>rw[p,q]at g<;>cases g
  |some r=>
   cases r with
   |true=>
    have C:A0O P u Bi i (A0O P A Bj oj K) F H U:=A1J (fun v H U hk=>by
     rcases hk with⟨_,hk⟩|⟨g,_⟩
     ·exact hk
     ·rw[p,q]at g;cases g) h
    exact .inl ⟨q,A1J (fun v H U hk=>.inl ⟨by rw[z];exact hr,hk⟩) (B1b m j L J C)⟩
   |false=>
    have C:A0O P u Bi i (fun F H U=>K (F.put oj.dst (.tuple [])) H U) F H U:=A1J (fun v H U hk=>by
     rcases hk with⟨g,_⟩|⟨_,hk⟩
     ·rw[p,q]at g;cases g
     ·exact hk) h
    refine .inr ⟨q,.inl ⟨by rw[z];exact hr,?_⟩⟩;obtain⟨e,G,I,h5,g⟩:=C;exact⟨e,by rw[y0 (Q3 a3)];exact G,I,by rw[n8 (Q3 a3)];exact h5,fun b hb=>by rw[←A1r a2];exact g b hb⟩
 ·
  rcases h with⟨g,h⟩|⟨g,h⟩
  ·rw[p]at g;refine .inl ⟨g,?_⟩;obtain⟨e,G,I,h5,M⟩:=h;refine⟨e,by rw[←G];exact(y0 (Q3 a1)).symm,I,by rw[←n8 (Q3 (F:=F) (d:=.tuple []) a1)];exact h5,fun b hb=>.inr ⟨by rw[z];exact hr,?_⟩⟩;rw[←A1r a2];exact M b hb
  ·rw[p]at g;exact .inr ⟨g,.inr ⟨by rw[z];exact hr,by rw[←A1r a2];exact h⟩⟩
variable {ops:Array Oper} {md:Region.Mode} {cs:Nat→CR} {bs:Nat→Bl}
def sE(P:Program)(cs:Nat→CR)(bs:Nat→Bl)(ops:Array Oper)(i:Nat)(K:Kf):Kf:=match ops[i]? with
 |none=>K
 |some o=>A0P P (O5 ops) (cs i) (bs i) o K
def B32(P:Program)(cs:Nat→CR)(bs:Nat→Bl)(md:Region.Mode)(ops:Array Oper)(K:Kf):Nat→Array Bool→Kf
 |0,listed=>fun F H U=>Region.ready md ops listed= []∧K F H U
 |fuel+1,listed=>fun F H U=>(Region.ready md ops listed= []→K F H U)∧∀i∈Region.ready md ops listed,sE P cs bs ops i (B32 P cs bs md ops K fuel (listed.setIfInBounds i true)) F H U
theorem B1c{e:Ef}{H:Heap}{U:Nat→Prop}(d:Dom H U): ∃b,e.okB b U:=by
 obtain⟨x,hx,_⟩:=d.fin [];unfold Ef.okB;cases e.new with
 |none=>exact⟨x,trivial⟩
 |some o=>
  cases e.at_ with
  |none=>exact⟨x,.inl hx⟩
  |some y=>exact⟨y,rfl⟩
theorem B33{o:Oper}{K:Kf}{F:FEnv}{H:Heap}{U:Nat→Prop}(d:Dom H U)(h:A0O P c bb o K F H U):A0O P c bb o (fun F H U=>Dom H U∧K F H U) F H U:=
 let ⟨e,h2,h3,h4,h5⟩:=h;⟨e,h2,h3,h4,fun b hb=>⟨d.app hb,h5 b hb⟩⟩
theorem A9u{d:List (Option Nat)}{o:Oper}{F:FEnv}{H:Heap}{U:Nat→Prop}(g:Dom H U)(h:A0P P d c bb o (fun _ _ _=>False) F H U):False:=by
 rcases h with⟨_,e,_,_,_,h5⟩|⟨_,h⟩
 ·obtain⟨b,hb⟩:=B1c (e:=e) g;exact h5 b hb
 ·exact h
theorem A7I{d:List (Option Nat)}{o:Oper}{K:Kf}{F:FEnv}{H:Heap}{U:Nat→Prop}(e:Dom H U)(h:A0P P d c bb o K F H U):A0P P d c bb o (fun F H U=>Dom H U∧K F H U) F H U:=
 h.imp (fun h=>⟨h.1,B33 e h.2⟩) fun h=>⟨h.1,e,h.2⟩
theorem B1d{K:Kf}{i:Nat}{q:Oper}{W:Nat→Prop}(O:ops[i]? =some q)(V:Closed md ops i W):
  ∀(fuel:Nat) (d:Array Bool) (F:FEnv) (H:Heap) (U:Nat→Prop),Dom H U→(∀j,W j→d.getD j false=false)→
   (∀j oj,ops[j]? =some oj→¬W j→d.getD j true=false→(q.apart ops oj=true∧A0t P q.op oj.op=true)∧A4D (bs i) (bs j))→
   i∈Region.ready md ops d→A0P P (O5 ops) (cs i) (bs i) q (B32 P cs bs md ops K fuel (d.setIfInBounds i true)) F H U→B32 P cs bs md ops K (fuel+1) d F H U:=by
 intro fuel
 induction fuel with
 |zero=>
  intro d F H U G _ _ hr h;refine⟨fun I=>(by rw[I]at hr;cases hr),fun j x=>?_⟩;by_cases g:j=i
  ·subst g;unfold sE;simp only[O];exact h
  ·exfalso;refine A9u G (A1K (fun F H U hk=>?_) h);have:=ready_mono x g;rw[hk.1]at this;cases this
 |succ fuel X=>
  intro d F H U G y m hr h;refine⟨fun I=>(by rw[I]at hr;cases hr),fun j x=>?_⟩;by_cases g:j=i
  ·subst g;unfold sE;simp only[O];exact h
  ·obtain⟨p,oj,r,_⟩:=mem_ready.1 x;have z:=V.not_ready y x g;obtain⟨⟨J,u⟩,L⟩:=m j oj r z p;have A: ∀k,W k→(d.setIfInBounds j true).getD k false=false:=fun k hk=>by
    rw[V4 (fun e:j=k=>z (by rw[e];exact hk))];exact y k hk
   have o: ∀k ok,ops[k]? =some ok→¬W k→(d.setIfInBounds j true).getD k true=false→(q.apart ops ok=true∧A0t P q.op ok.op=true)∧A4D (bs i) (bs k):=fun k ok hk M T=>by
    refine m k ok hk M ?_;by_cases C:j=k
    ·subst C;exact p
    ·rw[getD_set_ne true C]at T;exact T
   have h1:A0P P (O5 ops) (cs i) (bs i) q (A0P P (O5 ops) (cs j) (bs j) oj (B32 P cs bs md ops K fuel ((d.setIfInBounds i true).setIfInBounds j true))) F H U:=A1K (fun F H U hk=>by
    have:=hk.2 j (ready_mono x g);unfold sE at this;simp only[r]at this;exact this) h
   have Y:=A7I G (B31 J u L G h1);unfold sE;simp only[r];refine A1K (fun F H U hk=>X (d.setIfInBounds j true) F H U hk.1 A o (ready_mono hr (Ne.symm g)) ?_) Y;rw[Array.setIfInBounds_comm _ _ g];exact hk.2
def A7J(P:Program)(gs:List (Option Nat))(cs:Nat→CR)(bs:Nat→Bl)(K:Kf):Nat→List Oper→Kf
 |_,[]=>K
 |k,o::l=>A0P P gs (cs k) (bs k) o (A7J P gs cs bs K (k+1) l)
def A5N(P:Program)(ops:Array Oper)(oi oj:Oper):Bool:=oi.apart ops oj&&A0t P oi.op oj.op
def A2J(P:Program)(ops:Array Oper)(oi:Oper):List Oper→List Bool→Bool
 | [],_=>true
 |o::l,b::W=>(b||A5N P ops oi o)&&A2J P ops oi l W
 |_::_,[]=>false
def A5O(P:Program)(ops:Array Oper):Nat→List Oper→Bool
 |_,[]=>true
 |k,o::l=>(o.after.all fun e=> !Region.binds .any e||e.on<k)&&A2J P ops o l (X8 k l [])&&A5O P ops (k+1) l
def B2k(P:Program)(ops:Array Oper):Bool:=A5O P ops 0 ops.toList
def B34:(Nat→Bl)→Nat→List Oper→Prop
 |_,_,[]=>True
 |bs,k,o::l=>(∀i,i<l.length→(X8 k l [])[i]? ≠some true→A4D (bs k) (bs (k+1+i)))∧B34 bs (k+1) l
theorem A2s(bl:List Nat): ∀(l:List Oper) (k:Nat),B34 (fun _=>⟨bl,[],[]⟩) k l
 | [],_=>trivial
 |_::l,k=>⟨fun i _ _=>⟨fun b h _=>⟨h,(by simp)⟩,fun b h _=>⟨h,(by simp)⟩⟩,A2s bl l (k+1)⟩
theorem okRestE_at{e:Oper}: ∀(l:List Oper) (W:List Bool),A2J P ops e l W=true→∀(i:Nat) (o:Oper),l[i]? =some o→W[i]? =some true∨A5N P ops e o=true
 | [],_,_,i,o,h=>by simp at h
 |o'::l,[],h,_,_,_=>by simp[A2J]at h
 |o'::l,b::W,h,0,o,d=>by
  simp[A2J]at h d;subst d;rcases h.1 with h|h
  ·exact .inl (by simp[h])
  ·exact .inr h
 |o'::l,b::W,h,i+1,o,d=>by
  simp[A2J]at h d;simpa using okRestE_at l W h.2 i o d
theorem A9v{K:Kf}: ∀(l:List Oper) (k:Nat) (d:Array Bool),(∀j,l[j]? =ops[k+j]?)→(∀j,d.getD j false=decide (j<k))→(d.size=ops.size)→
  A5O P ops k l=true→B34 bs k l→∀F H U,Dom H U→A7J P (O5 ops) cs bs K k l F H U→B32 P cs bs .any ops K l.length d F H U:=by
 intro l
 induction l with
 |nil=>
  intro k d hl u hsz _ _ F H U _ h;refine⟨?_,h⟩;cases hr:Region.ready .any ops d with
  |nil=>rfl
  |cons x xs=>
   exfalso;have hx:x∈Region.ready .any ops d:=by rw[hr];simp
   obtain⟨O,o,ho,_⟩:=mem_ready.1 hx;have:=u x;rw[I8 O]at this;have hk:k≤x:=by simpa using this
   have:=hl (x-k);rw[show k+(x-k)=x from by omega,ho]at this;simp at this
 |cons o l ih=>
  intro k d hl u hsz T V F H U hD h;obtain⟨a5,a6⟩:=V;have O:ops[k]? =some o:=by simpa using(hl 0).symm
  have b3:k<ops.size:=(D0x.1 O).1;simp only[A5O,D0l]at T;obtain⟨⟨he,hr⟩,y⟩:=T;have z: ∀j,l[j]? =ops[k+1+j]? :=fun j=>by have:=hl (j+1);simpa [Nat.add_assoc,Nat.add_comm 1 j]using this
  have p:k∈Region.ready .any ops d:=by
   rw[mem_ready];refine⟨?_,o,O,fun e A hb=>?_⟩
   ·have:=u k;simp at this;have C:k<d.size:=by omega
    simp[C]at this⊢;exact this
   ·rw[u];rw[Array.all_eq_true_iff_forall_mem]at he;have:=he e A;simp[hb]at this;simpa using this
  have a9: ∀j,(d.setIfInBounds k true).getD j false=decide (j<k+1):=fun j=>by
   by_cases G:k=j
   ·subst G;have C:k<d.size:=by omega
    simp[C]
   ·rw[getD_set_ne false G,u];apply D1B.2;omega
  have X:(d.setIfInBounds k true).size=ops.size:=by simpa using hsz
  let W:Nat→Prop:=fun j=>j=k∨(k<j∧(X8 k l [])[j-(k+1)]? =some true)
  have b0:Closed .any ops k W:=by
   refine⟨.inl rfl,fun j oj I Y m=>?_⟩;rcases I with I|⟨b1,I⟩
   ·exact absurd I Y
   ·have q:l[j-(k+1)]? =some oj:=by rw[z];rw[show k+1+(j-(k+1))=j from by omega];exact m
    have J:=A3M k l [] (j-(k+1)) oj q;simp only[D0f,Nat.zero_add]at J;rw[I]at J;have hw:l7 oj k ((X8 k l []).take (j-(k+1)))=true:=by simpa using J.symm
    unfold l7 at hw;obtain⟨e,A,g⟩:=Array.any_eq_true'.1 hw;simp only[D0l,D1v,beq_iff_eq,D0u]at g;refine⟨e,A,g.1,?_⟩;rcases g.2 with h1|⟨h1,i⟩
    ·exact .inl h1
    ·refine .inr ⟨h1,?_⟩;rw[List.getD_eq_getElem?_getD]at i;cases M:((X8 k l []).take (j-(k+1)))[e.on-(k+1)]? with
     |none=>rw[M]at i;simp at i
     |some b=>
      rw[M]at i;simp at i;subst i;rw[List.getElem?_take]at M;split at M
      ·exact M
      ·cases M
  have b2: ∀j,W j→d.getD j false=false:=fun j I=>by
   rw[u];rcases I with rfl|⟨b1,_⟩<;>simp;omega
  have L: ∀j oj,ops[j]? =some oj→¬W j→d.getD j true=false→A5N P ops o oj=true∧A4D (bs k) (bs j):=fun j oj m r hu=>by
   have h1:=u j;rw[I8 hu]at h1;have G:k≤j:=by simpa using h1
   have Y:j≠k:=fun e=>r (.inl e);have q:l[j-(k+1)]? =some oj:=by rw[z];rw[show k+1+(j-(k+1))=j from by omega];exact m
   have a0:(X8 k l [])[j-(k+1)]? ≠some true:=fun i=>r (.inr ⟨by omega,i⟩);have a4:=a5 (j-(k+1)) (D0i.1 q).1 a0;rw[show k+1+(j-(k+1))=j from by omega]at a4;rcases okRestE_at l _ hr _ _ q with i|i
   ·exact absurd i a0
   ·exact⟨i,a4⟩
  refine B1d O b0 l.length d F H U hD b2 (fun j oj m r hu=>?_) p (A1K (fun F' H' U' h'=>ih (k+1) _ z a9 X y a6 F' H' U' h'.1 h'.2) (A7I hD h));obtain⟨h1,i⟩:=L j oj m r hu;exact⟨by simpa [A5N]using h1,i⟩
def Ef.okH(e:Ef)(b:Nat)(H:Heap):Prop:=match e.new,e.at_ with
 |none,_=>True
 |some _,some c=>b=c
 |some _,none=>H b=none∨b∈e.del
theorem C2K{e:Ef}{b:Nat}{H:Heap}{U:Nat→Prop}(g:Dom H U)(h:e.okB b U):e.okH b H:=by
 unfold Ef.okB at h;unfold Ef.okH;cases hn:e.new with
 |none=>trivial
 |some o=>
  rw[hn]at h;cases d:e.at_ with
  |none=>
   rw[d]at h;refine h.imp (fun h=>?_) id;cases hb:H b with
   |none=>rfl
   |some x=>exact absurd (g.dom b (by rw[hb];simp)) h
  |some y=>rw[d]at h;exact h
theorem F4(H:Heap):H.minus []=H:=by funext k;simp[Heap.minus]
theorem B35{b k:Nat}:(H.del b) k=none↔k=b∨H k=none:=by unfold Heap.del;by_cases h:k=b<;>simp[h]
theorem A0u{t:TypeId}{a x:D}{H':Heap}{b:Nat}(h:Y4 P t a x H=some H')(g:rdB a= [b]): ∃o,H' b=some o∧o.rw=true∧H'=H.set b o∧B1Z (H b)=true:=by
 unfold Y4 at h;split at h
 ·split at h
  ·rename_i e off;obtain rfl:e=b:=by simpa [rdB]using g
   split at h
   ·rename_i cs Z d;split at h
    ·cases h;exact⟨_,by simp[Heap.set],rfl,rfl,by rw[d];rfl⟩
    ·cases h
   ·cases h
  ·rename_i e sz i off;obtain rfl:e=b:=by simpa [rdB]using g
   split at h
   ·rename_i sz' es d;split at h
    ·cases h;exact⟨_,by simp[Heap.set],rfl,rfl,by rw[d];rfl⟩
    ·cases h
   ·cases h
  ·cases h
 ·cases h
theorem Z7(H:Heap)(b:Nat)(o:Obj):(H.minus [b]).set b o=H.set b o:=by
 funext k;unfold Heap.set Heap.minus
 by_cases h:k=b<;>simp[h]
theorem B8i{op:Op}{e:Ef}(h:l9 P c bl ev H op=some e)(a5:A5y bb H e)(j:O4 P c bl ev H op):
  D0 P ev H (fun d H'=>∃b,e.okH b H∧d=e.val b∧(e.app b H).Le H') op:=by
 have one: ∀{K:D→Heap→Prop} {d:D} {rd:List Nat},e=val d rd→(∃b,e.okH b H∧d=e.val b∧(e.app b H).Le H):=by
  intro K d rd he;subst he;exact⟨0,trivial,rfl,by show (H.minus []).Le H;rw[F4];exact D1z H⟩
 by_cases hc:I2 P op= .pure
 ·rw[T8 hc]at h;obtain⟨d,y,rfl⟩:=D0h.1 h;have fin: ∃d',K8 P ev op=some d'∧∃b,(val d []).okH b H∧d'=(val d []).val b∧((val d []).app b H).Le H:=⟨d,y,0,trivial,rfl,by show (H.minus []).Le H;rw[F4];exact D1z H⟩
  cases op
  case call cc=>
   obtain⟨callee,args,M⟩:=cc;cases callee with
   |value f=>simp[I2]at hc
   |invoke r m=>simp[I2]at hc
   |builtin b=>
    cases b<;>try(simp[I2]at hc;done)
    all_goals (simp only[D0,hc];exact fin)
  case convert s t x=>simp only[D0,hc];exact fin
  case load t x=>simp[I2]at hc
  case store t a x=>simp[I2]at hc
  case alloc t=>simp[I2]at hc
  case box t x=>simp[I2]at hc
  case buildSlice t n p=>simp[I2]at hc
  case makeSlice t a b=>simp[I2]at hc
  case range t x=>simp[I2]at hc
  case next x i=>simp[I2]at hc
  case makeMap t r=>simp[I2]at hc
  case lookup t m k ok=>simp[I2]at hc
  case mapUpdate t m k v=>simp[I2]at hc
  all_goals first
   |(simp only[D0,hc];exact fin)
   |(simp[I2]at hc;done)
 ·rw[I3 hc]at h;cases op
  case load t x=>
   simp only[I1,D0h]at h;obtain⟨d,y,rfl⟩:=h;exact⟨d,y,0,trivial,rfl,by show (H.minus []).Le H;rw[F4];exact D1z H⟩
  case lookup t m k ok=>
   simp only[I1,D0h]at h;obtain⟨d,y,rfl⟩:=h;exact⟨d,y,0,trivial,rfl,by show (H.minus []).Le H;rw[F4];exact D1z H⟩
  case alloc t=>
   simp only[I1,D0h]at h;obtain⟨z,O,rfl⟩:=h;exact⟨z,O,fun b hb=>⟨b,.inl hb,rfl,by show ((H.minus []).set b _).Le _;rw[F4];exact D1z _⟩⟩
  case box t x=>
   simp only[I1]at h;split at h
   ·rename_i h1;cases h;exact⟨h1,fun b hb=>⟨b,.inl hb,rfl,by show ((H.minus []).set b _).Le _;rw[F4];exact D1z _⟩⟩
   ·cases h
  case makeSlice t l c=>
   simp only[I1]at h;obtain⟨e',sz,A,z,k,n,k',m,h1,G,T,h4,h5,h6,h7,h8,h9,U,rfl⟩:=A5M h;exact⟨e',sz,A,z,k,n,k',m,h1,G,T,h4,h5,h6,h7,h8,h9,U,fun b hb=>⟨b,.inl hb,rfl,by show ((H.minus []).set b _).Le _;rw[F4];exact D1z _⟩⟩
  case buildSlice t n parts=>
   simp only[I1,bsE]at h;obtain⟨⟨e',sz,A⟩,V,h⟩:=D0k.1 h;split at h
   ·rename_i h1;obtain⟨z,O,h⟩:=D0k.1 h;split at h
    ·rename_i G;obtain⟨es,W,rfl⟩:=D0h.1 h;exact⟨e',sz,A,z,es,V,h1.1,h1.2,O,G,W,fun b hb=>⟨b,.inl hb,rfl,by show ((H.minus []).set b _).Le _;rw[F4];exact D1z _⟩⟩
    ·cases h
   ·cases h
  case store t a x=>
   simp only[I1,l8]at h;obtain⟨H1,hs,h⟩:=D0k.1 h;refine⟨H1,hs,?_⟩;cases X:ev a with
   |box b off=>
    rw[X]at h hs;simp only at h;obtain⟨o,ho,rfl⟩:=D0h.1 h;obtain⟨o',C,_,I,_⟩:=A0u hs (b:=b) rfl;rw[ho]at C;cases C;exact⟨b,rfl,rfl,by show ((H.minus [b]).set b _).Le _;rw[Z7,I];exact D1z _⟩
   |el b sz i off=>
    rw[X]at h hs;simp only at h;obtain⟨o,ho,rfl⟩:=D0h.1 h;obtain⟨o',C,_,I,_⟩:=A0u hs (b:=b) rfl;rw[ho]at C;cases C;exact⟨b,rfl,rfl,by show ((H.minus [b]).set b _).Le _;rw[Z7,I];exact D1z _⟩
   |_=>rw[X]at h;simp at h
  case call cc=>
   obtain⟨callee,args,M⟩:=cc;cases callee with
   |value f=>
    simp only[I1]at h;simp only[O4]at j;simp only[D0];split at h
    ·rename_i g first cap hf
     cases h;rw[hf]at j⊢;simp only at j⊢;refine(j H (fun k cs hk=>hk) (fun b hb=>rfl)).mono fun d H' y=>?_;unfold CR.post at y;unfold Ef.okH Ef.app;cases hn:c.new with
     |none=>rw[hn]at y;exact⟨0,by simp only[hn],by simp only[CR.f,hn];exact y.1,by simp only[hn];exact y.2⟩
     |some o=>
      rw[hn]at y;obtain⟨b,h1,G,T⟩:=y;exact⟨b,by simp only[hn];exact h1,by simp only[CR.f,hn];exact G,by simp only[hn];exact T⟩
    ·cases h
   |invoke r m=>simp[I1]at h
   |builtin b=>
    cases b
    case append=>
     unfold I1 at h;simp only at h;simp only[D0];split at h
     ·rename_i t t' s x h1 G;simp only[h1,G];unfold B1a at h;obtain⟨⟨e',sz,A⟩,V,h⟩:=D0k.1 h;split at h
      ·rename_i q;simp only at q h;obtain⟨xs,Y,h⟩:=D0k.1 h;refine⟨e',sz,A,V,q.1,q.2.1,q.2.2,xs,Y,?_⟩;split at h
       ·rename_i J;split at h
        ·rename_i hx;cases h;rw[J];refine⟨hx.1,hx.2.1,fun he=>by rw[he]at hx;simp at hx,fun _ b hb=>⟨b,.inl hb,rfl,?_⟩⟩;intro k o hk;simp only[Ef.app,Heap.set]at hk⊢;split at hk
         ·rename_i u;rw[if_pos u];exact hk
         ·rename_i u;rw[if_neg u];exact A5t _ _ k o hk
        ·cases h
       ·rename_i b sz' lo n J;split at h
        ·rename_i a4 es hb;split at h
         ·rename_i hx;obtain⟨x1,x2,x3,x4,x5,x6⟩:=hx;subst x1;subst x2;subst x3;cases h;rw[J];refine⟨rfl,.inl ⟨rfl,es,hb,x4,x5,x6,fun b' a0=>⟨b',?_,rfl,?_⟩⟩⟩
          ·show H b'=none∨b'∈b::_;rcases B35.1 a0 with h|h
           ·exact .inr (by rw[h];exact D0j ..)
           ·exact .inl h
          ·intro k o hk;simp only[Ef.app,Heap.set]at hk⊢;split at hk
           ·rename_i u;rw[if_pos u];exact hk
           ·rename_i u;rw[if_neg u];unfold Heap.minus at hk;split at hk
            ·cases hk
            ·rename_i L;simp only[D00,not_or]at L;unfold Heap.del;rw[if_neg L.1];exact hk
         ·cases h
        ·cases h
       ·cases h
      ·cases h
     ·cases h
    all_goals cases h
  case makeMap t r=>
   cases r with
   |none=>
    simp only[I1,D1A]at h;subst h;exact fun b hb=>⟨b,.inl hb,rfl,by show ((H.minus []).set b _).Le _;rw[F4];exact D1z _⟩
   |some r=>simp[I1]at h
  all_goals cases h
structure StF(N:Nat)(w0:World)(H0:Heap)(F:FEnv)(H:Heap)(U:Nat→Prop)(a:Act)(w:World):Prop where
 size:a.tmps.size=N
 defers:a.defers= []
 env: ∀i,R w H (F i) (a.eval (.tmp i))
 sat:Sat H w
 ext:Ext H0 w0 w
 frm:From w0 H0 H
 dom:Dom H U
 lt: ∀b,U b→b<w.heap.size
theorem StF.evR{N:Nat}{w0:World}{H0:Heap}{F:FEnv}{U:Nat→Prop}{a:Act}{w:World}(h:StF N w0 H0 F H U a w)(x:Operand):R w H (F.ev x) (a.eval x):=by
 cases x with
 |tmp t=>exact h.env t
 |const v=>exact A2F w H v
 |global g=>exact .glob g
 |func f=>exact .fn _ _ _ _ _ rfl rfl (by simp) (by simp)
theorem B1e{e:Ef}{b:Nat}{o:Obj}{H:Heap}(h:e.new=some o):e.app b H b=some o:=by unfold Ef.app;rw[h];simp[Heap.set]
theorem A9w{N:Nat}{w0:World}{H0:Heap}{o:Oper}{K:Kf}{F:FEnv}{U:Nat→Prop}{a:Act}{w:World}(W: ∀t,o.dst=some t→t<N)(h:A0O P c bb o K F H U)(hst:StF N w0 H0 F H U a w):
  opSem P none o a w fun v w'=>∃L H' M,StF N w0 H0 L H' M (a.put o.dst v) w'∧K L H' M:=by
 obtain⟨e,he,r,j,hk⟩:=h;refine(N3 (o:=o) hst.sat hst.evR (B8i he r j)).mono fun v w' hp=>?_;obtain⟨d,H',X,O,G,T,b,hb,rfl,g⟩:=hp;have u: ∀ob,e.new=some ob→H b=none→w.heap.size≤b:=fun ob x m=>by
  rcases Nat.lt_or_ge b w.heap.size with I|J
  ·have h1:=T b I (H8 m);have Y:=g b ob (B1e x);rw[J2 Y,r.new ob x]at h1;cases h1
  ·exact J
 have z:e.okB b U:=by
  unfold Ef.okH at hb;unfold Ef.okB;cases hn:e.new with
  |none=>trivial
  |some ob=>
   rw[hn]at hb;cases V:e.at_ with
   |none=>
    rw[V]at hb;exact hb.imp (fun m hU=>by have:=hst.lt b hU;have:=u ob hn m;omega) id
   |some y=>rw[V]at hb;exact hb
 refine⟨F.put o.dst (e.val b),e.app b H,e.used b U,?_,hk b z⟩;have p:From w H (e.app b H):=T.less g;refine⟨?_,?_,fun i=>?_,O.less g,hst.ext.trans hst.frm G,hst.frm.trans hst.ext.size p,hst.dom.app z,fun k hk=>?_⟩
 ·cases o.dst<;>simp[Act.put,hst.size]
 ·cases o.dst<;>exact hst.defers
 ·cases A:o.dst with
  |none=>exact(hst.env i).mono G p
  |some t=>
   have ht:=W t A;simp only[FEnv.put];by_cases q:t=i
   ·subst q;rw[if_pos rfl];have:(a.put (some t) v).eval (.tmp t)=v:=by
     have h':t<a.tmps.size:=by rw[hst.size];exact ht
     simp[Act.eval,Act.put,h']
    rw[this];exact X.less g
   ·rw[if_neg q];have:(a.put (some t) v).eval (.tmp i)=a.eval (.tmp i):=by
     simp[Act.eval,Act.put,D1C q]
    rw[this];exact(hst.env i).mono G p
 ·rcases used_inv hk with hk|⟨hn,rfl⟩
  ·exact D1U (hst.lt k hk) G.size
  ·cases C:e.new with
   |none=>exact absurd C hn
   |some ob=>exact O.lt (g k ob (B1e C))
theorem A4n{N:Nat}{w0:World}{H0:Heap}{F:FEnv}{H:Heap}{U:Nat→Prop}{a:Act}{w:World}{o:Oper}{r:Bool}(hst:StF N w0 H0 F H U a w)(h:A2f (O5 ops) F o.guard=some r):Region.wanted o (yielded ops a.tmps)=r:=by
 cases d:o.guard with
 |none=>rw[d]at h;cases h;simp[Region.wanted,d]
 |some p=>
  obtain⟨j,m⟩:=p;rw[d]at h;unfold A2f at h;simp only[]at h;rw[B2j]at h;cases hs:(ops[j]?).bind (·.dst)with
  |none=>
   rw[hs]at h;cases h;have e:yielded ops a.tmps j=none:=by unfold yielded;rw[hs];rfl
   simp[Region.wanted,d,e]
  |some s=>
   rw[hs]at h;simp only[]at h;have hv:=hst.env s;split at h
   ·rename_i i;cases h;rw[i]at hv;obtain⟨vs,hv,_⟩:=hv.tuple_inv;have e:yielded ops a.tmps j=none:=by
     unfold yielded;rw[hs];simp only[D02];simp only[Act.eval]at hv;cases g:a.tmps[s]? with
     |none=>rfl
     |some u=>
      simp[g]at hv;subst hv;rfl
    simp[Region.wanted,d,e]
   ·rename_i b i;cases h;rw[i]at hv;have hv:=hv.bool_inv;have e:yielded ops a.tmps j=some b:=by
     unfold yielded;rw[hs];simp only[D02];simp only[Act.eval]at hv;cases g:a.tmps[s]? with
     |none=>
      simp[g]at hv;cases hv
     |some u=>
      simp[g]at hv;subst hv;rfl
    simp[Region.wanted,d,e]
   ·cases h
theorem StF.skip{N:Nat}{w0:World}{H0:Heap}{F:FEnv}{H:Heap}{U:Nat→Prop}{a:Act}{w:World}(hst:StF N w0 H0 F H U a w){dst:Option Nat}(e: ∀t,dst=some t→t<N):StF N w0 H0 (F.put dst (.tuple [])) H U (a.put dst undef) w:=by
 refine⟨?_,?_,fun i=>?_,hst.sat,hst.ext,hst.frm,hst.dom,hst.lt⟩
 ·cases dst<;>simp[Act.put,hst.size]
 ·cases dst<;>exact hst.defers
 ·cases dst with
  |none=>exact hst.env i
  |some t=>
   have g:=e t rfl;simp only[FEnv.put];by_cases d:t=i
   ·subst d;rw[if_pos rfl];have:(a.put (some t) undef).eval (.tmp t)=undef:=by
     have h:t<a.tmps.size:=by rw[hst.size];exact g
     simp[Act.eval,Act.put,h]
    rw[this];exact .tuple [] #[] rfl (by simp)
   ·rw[if_neg d];have:(a.put (some t) undef).eval (.tmp i)=a.eval (.tmp i):=by
     simp[Act.eval,Act.put,D1C d]
    rw[this];exact hst.env i
theorem A1L{N:Nat}{w0:World}{H0:Heap}{K:Kf}{Q:Exit→Act→World→Prop}(g: ∀o∈ops.toList,∀t,o.dst=some t→t<N)
  (j: ∀F H U a w,StF N w0 H0 F H U a w→K F H U→Q .normal a w): ∀(fuel:Nat) (d:Array Bool) (F:FEnv) (H:Heap) (U:Nat→Prop) (a:Act) (w:World),
  B32 P cs bs md ops K fuel d F H U→StF N w0 H0 F H U a w→Go.wpAny P md ops Q fuel d a w
 |0,_,F,H,U,a,w,h,hst=>⟨h.1,j _ _ _ _ _ hst h.2⟩
 |fuel+1,d,F,H,U,a,w,h,hst=>⟨fun p=>j _ _ _ _ _ hst (h.1 p),fun i q=>by
   have h1:=h.2 i q;unfold sE at h1;unfold Go.wpOp;split
   ·rename_i hn;simp only[hn]at h1;exact A1L g j fuel _ _ _ _ _ _ h1 hst
   ·rename_i o ho;simp only[ho]at h1;have e:o∈ops.toList:=by rw[D1D];exact Array.mem_of_getElem? ho
    rcases h1 with⟨hr,h1⟩|⟨hr,h1⟩
    ·rw[if_pos (A4n hst hr)];exact .inl (opSem.wp ((A9w (g o e) h1 hst).mono fun v w' hv=>by
      obtain⟨r,H',u,m,hk⟩:=hv;exact A1L g j fuel _ _ _ _ _ _ hk m))
    ·rw[if_neg (by rw[A4n hst hr];exact Bool.false_ne_true)];exact A1L g j fuel _ _ _ _ _ _ h1 (hst.skip (g o e))⟩
def wpP(P:Program)(gs:List (Option Nat))(cs:Nat→CR)(bs:Nat→Bl)(K:Env→Heap→Prop):Nat→List Oper→Env→Heap→Prop
 |_,[],E,H=>K E H
 |i,o::l,E,H=>match o.guard with
  |none=>∃e,l9 P (cs i) (bs i).l E.ev H o.op=some e∧A5y (bs i) H e∧O4 P (cs i) (bs i).l E.ev H o.op∧∀b,e.okH b H→wpP P gs cs bs K (i+1) l (E.put o.dst (e.val b)) (e.app b H)
  |some (j,want)=>A1q E (H9 gs j) want
    (fun E=>∃e,l9 P (cs i) (bs i).l E.ev H o.op=some e∧A5y (bs i) H e∧O4 P (cs i) (bs i).l E.ev H o.op∧∀b,e.okH b H→wpP P gs cs bs K (i+1) l (E.put o.dst (e.val b)) (e.app b H))
    (fun E=>wpP P gs cs bs K (i+1) l (E.put o.dst (.tuple [])) H)
theorem A4E{p:List (Option Nat)}{K:Env→Heap→Prop}: ∀(l:List Oper) (i:Nat) (E:Env) (F:FEnv) (H:Heap) (U:Nat→Prop),(∀t,E.get t=F t)→Dom H U→wpP P p cs bs K i l E H→A7J P p cs bs (fun F H _=>∃E,(∀t,E.get t=F t)∧K E H) i l F H U
 | [],i,E,F,H,U,g,z,h=>⟨E,g,h⟩
 |o::l,i,E,F,H,U,g,z,h=>by
  have put: ∀(E:Env) (d:D),(∀t,E.get t=F t)→∀t,(E.put o.dst d).get t=(F.put o.dst d) t:=fun E d g t=>by
   cases o.dst with
   |none=>exact g t
   |some u=>
    simp only[Env.put,Env.get,FEnv.put];split
    ·rfl
    ·exact g t
  have y: ∀(E:Env),(∀t,E.get t=F t)→F.ev=E.ev:=fun E g=>by
   funext x
   cases x with
   |tmp t=>exact(g t).symm
   |_=>rfl
  have run: ∀(E:Env),(∀t,E.get t=F t)→(∃e,l9 P (cs i) (bs i).l E.ev H o.op=some e∧A5y (bs i) H e∧O4 P (cs i) (bs i).l E.ev H o.op∧∀b,e.okH b H→wpP P p cs bs K (i+1) l (E.put o.dst (e.val b)) (e.app b H))→
    A0O P (cs i) (bs i) o (A7J P p cs bs (fun F H _=>∃E,(∀t,E.get t=F t)∧K E H) (i+1) l) F H U:=fun E g h=>by
   obtain⟨e,he,C,q,hk⟩:=h;exact⟨e,by rw[y E g];exact he,C,by rw[y E g];exact q,fun b hb=>A4E l (i+1) (E.put o.dst (e.val b)) _ _ _ (put E _ g) (z.app hb) (hk b (C2K z hb))⟩
  have skip: ∀(E:Env),(∀t,E.get t=F t)→wpP P p cs bs K (i+1) l (E.put o.dst (.tuple [])) H→A7J P p cs bs (fun F H _=>∃E,(∀t,E.get t=F t)∧K E H) (i+1) l (F.put o.dst (.tuple [])) H U:=fun E g h=>
   A4E l (i+1) (E.put o.dst (.tuple [])) _ _ _ (put E _ g) z h
  have know: ∀(E:Env) (s:Nat) (d:D),(∀t,E.get t=F t)→E.get s=d→∀t,Env.get ((s,d)::E) t=F t:=fun E s d g hs t=>by
   simp only[Env.get];split
   ·rename_i e;subst e;rw[←hs];exact g s
   ·exact g t
  unfold wpP at h;unfold A7J;cases r:o.guard with
  |none=>
   rw[r]at h;exact .inl ⟨by rw[r];rfl,run E g h⟩
  |some J=>
   obtain⟨j,m⟩:=J;rw[r]at h;simp only[]at h;unfold A1q at h;cases hs:H9 p j with
   |none=>
    rw[hs]at h;exact .inr ⟨by rw[r];simp only[A2f,hs],skip E g h⟩
   |some s=>
    rw[hs]at h;rcases h with⟨L,h⟩|⟨b,hb,h1,M⟩
    ·have A:F s= .tuple []:=by rw[←g];exact L
     exact .inr ⟨by rw[r];simp only[A2f,hs,A],skip E g h⟩
    ·have A:F s= .bool b:=by rw[←g];exact hb
     by_cases G:b=m
     ·subst G;exact .inl ⟨by rw[r];simp only[A2f,hs,A,beq_self_eq_true],run _ (know E s _ g hb) (h1 rfl)⟩
     ·have I:b= !m:=by cases b<;>cases m<;>simp_all
      subst I;exact .inr ⟨by rw[r];simp only[A2f,hs,A];cases m<;>rfl,skip _ (know E s _ g hb) (M rfl)⟩
theorem C2L(n:Nat)(l:List Nat): ∃b,¬(b<n)∧b∉l:=by
 refine⟨n+l.sum+1,by omega,fun h=>?_⟩;have: ∀(l:List Nat) (x:Nat),x∈l→x≤l.sum:=by
  intro l
  induction l with
  |nil=>intro x hx;cases hx
  |cons y l d=>
   intro x hx;rcases D00.1 hx with rfl|hx
   ·simp
   ·have:=d x hx;simp;omega
 have:=this l _ h;omega
theorem A4F{w:World}(hs:Sat H w):Dom H (fun b=>b<w.heap.size):=⟨fun b hb=>by
 cases h:H b with
 |none=>exact absurd h hb
 |some o=>exact hs.lt h,C2L _⟩
theorem B5T{N:Nat}{w0:World}{H0:Heap}{id:Nat}{K:Env→Heap→Prop}{Q:Exit→Act→World→Prop}{a:Act}{w:World}{E:Env}(hm:P.follows .mixedOrders=true)(e:B2k P ops=true)
  (p: ∀o∈ops.toList,∀t,o.dst=some t→t<N)
  (q: ∀E H a w,a.tmps.size=N→a.defers= []→(∀i,R w H (E.get i) (a.eval (.tmp i)))→Sat H w→Ext H0 w0 w→From w0 H0 H→K E H→Q .normal a w)
  (h1:a.tmps.size=N) (r:a.defers= []) (u: ∀i,R w H (E.get i) (a.eval (.tmp i))) (x:Sat H w) (h5:Ext H0 w0 w) (m:From w0 H0 H)
  (g:B34 bs 0 ops.toList) (h:wpP P (O5 ops) cs bs K 0 ops.toList E H):(Code.region id ops true).wp P Q a w:=by
 have he:Ext H w {w with drawn:=w.drawn+1}:=Ext.drewN H w 1;have d:=x.same (w':={w with drawn:=w.drawn+1}) rfl he;refine wp_region_any hm (A1L (P:=P) (cs:=cs) (bs:=bs) (md:=.any) (ops:=ops) (K:=fun F H _=>∃E,(∀t,E.get t=F t)∧K E H) p (fun F H U a w hst hk=>?_) ops.size _ _ _ _ a {w with drawn:=w.drawn+1} ?_
  (⟨h1,r,fun i=>(u i).mono he (D15 _ _),d,h5.trans m he,m,A4F d,fun b hb=>hb⟩:StF N w0 H0 E.get H (fun b=>b<({w with drawn:=w.drawn+1}:World).heap.size) a {w with drawn:=w.drawn+1}))
 ·obtain⟨E,y,hk⟩:=hk;exact q E H a w hst.size hst.defers (fun i=>by rw[y];exact hst.env i) hst.sat hst.ext hst.frm hk
 ·have:=A9v (P:=P) (cs:=cs) (bs:=bs) (ops:=ops) ops.toList 0 (Array.replicate ops.size false) (by simp) (by intro j;simp[Array.getElem?_replicate];split<;>rfl) (by simp) e g E.get H _ (A4F d)
   (A4E ops.toList 0 E E.get H _ (fun _=>rfl) (A4F d) h)
  simpa using this
end
section
variable {P:Program} {H H':Heap} {ev ev':Operand→D} {bl:List Nat}
theorem A0v{op:Op}{K:D→Heap→Prop}(hc:I2 P op= .pure):D0 P ev H K op= ∃d,K8 P ev op=some d∧K d H:=by
 cases op
 case convert s t x=>simp only[D0,hc]
 case call cc=>
  obtain⟨callee,args,e⟩:=cc;cases callee with
  |value f=>simp[I2]at hc
  |invoke r m=>simp[I2]at hc
  |builtin b=>cases b<;>first|(simp only[D0,hc];done)|(simp[I2]at hc;done)
 all_goals first
  |rfl
  |(simp[I2]at hc;done)
  |(simp only[D0,hc];done)
theorem B1f{op:Op}{K:D→Heap→Prop}(h: ∀x∈op.operands.toList,ev x=ev' x):D0 P ev H K op=D0 P ev' H K op:=by
 by_cases hc:I2 P op= .pure
 ·rw[A0v hc,A0v hc,A1p hc h]
 ·cases op
  case load t x=>simp only[D0,h x (by simp[Op.operands])]
  case store t a x=>simp only[D0,h a (by simp[Op.operands]),h x (by simp[Op.operands])]
  case box t x=>simp only[D0,h x (by simp[Op.operands])]
  case lookup t m k ok=>simp only[D0,h m (by simp[Op.operands]),h k (by simp[Op.operands])]
  case mapUpdate t m k x=>simp only[D0,h m (by simp[Op.operands]),h k (by simp[Op.operands]),h x (by simp[Op.operands])]
  case buildSlice t n parts=>simp only[D0,A5z (ev:=ev) (ev':=ev') (l:=parts.toList) (fun x hx=>h x (by simpa [Op.operands]using hx))]
  case makeSlice t l c=>simp only[D0,h l (by simp[Op.operands]),h c (by simp[Op.operands])]
  case range t x=>simp only[D0,h x (by simp[Op.operands])]
  case next x b=>simp only[D0,h x (by simp[Op.operands])]
  case entry x=>simp only[D0,h x (by simp[Op.operands])]
  case convert s t x=>
   have hx:=h x (by simp[Op.operands]);have e1:A2h P ev H K s t x=A2h P ev' H K s t x:=by unfold A2h;rw[hx]
   simp only[D0];exact e1
  case call cc=>
   obtain⟨callee,args,g⟩:=cc;cases callee with
   |value f=>
    have i:=h f (by simp[Op.operands,Call.operands]);have j:=A2q (ev:=ev) (ev':=ev') (l:=args.toList) (fun x hx=>h x (by simp[Op.operands,Call.operands];exact .inr (by simpa using hx)));simp only[D0,i,j]
   |invoke r m=>simp only[D0]
   |builtin b=>
    cases b
    case append=>
     unfold D0;simp only;split
     ·rename_i t o s x h1 e;have e1:=h s (by simp[Op.operands,Call.operands,←D1D,e]);have e2:=h x (by simp[Op.operands,Call.operands,←D1D,e]);unfold A1F;rw[e1,e2]
     ·rfl
    case len=>
     unfold D0;simp only;split
     ·rename_i x e;rw[h x (by simp[Op.operands,Call.operands,←D1D,e])]
     ·rfl
    all_goals
     unfold D0;simp only
     try(split<;>first|rfl|(rename_i d;exact absurd d hc))
  case makeMap t r=>cases r<;>first|rfl|(unfold D0;simp only;try(split<;>first|rfl|(rename_i d;exact absurd d hc)))
  all_goals first
   |rfl
   |(unfold D0;simp only;try(split<;>first|rfl|(rename_i d;exact absurd d hc)))
theorem A2K{op:Op}{K M:D→Heap→Prop}(j: ∀d H,K d H→M d H)(h:D0 P ev H K op):D0 P ev H M op:=by
 by_cases hc:I2 P op= .pure
 ·rw[A0v hc]at h⊢;obtain⟨d,h1,o⟩:=h;exact⟨d,h1,j _ _ o⟩
 ·cases op
  case load t x=>obtain⟨d,h1,o⟩:=h;exact⟨d,h1,j _ _ o⟩
  case store t a x=>obtain⟨d,h1,o⟩:=h;exact⟨d,h1,j _ _ o⟩
  case box t x=>exact⟨h.1,fun b hb=>j _ _ (h.2 b hb)⟩
  case alloc t=>obtain⟨z,h1,o⟩:=h;exact⟨z,h1,fun b hb=>j _ _ (o b hb)⟩
  case lookup t m k ok=>obtain⟨d,h1,o⟩:=h;exact⟨d,h1,j _ _ o⟩
  case mapUpdate t m k x=>obtain⟨d,h1,o⟩:=h;exact⟨d,h1,j _ _ o⟩
  case buildSlice t n parts=>obtain⟨e,sz,u,z,es,h1,o,y,A,h5,q,O⟩:=h;exact⟨e,sz,u,z,es,h1,o,y,A,h5,q,fun b hb=>j _ _ (O b hb)⟩
  case makeSlice t l c=>obtain⟨e,sz,u,z,k,n,k',m,h1,o,y,A,h5,q,O,h8,h9,T,U⟩:=h;exact⟨e,sz,u,z,k,n,k',m,h1,o,y,A,h5,q,O,h8,h9,T,fun b hb=>j _ _ (U b hb)⟩
  case range t x=>
   unfold D0 at h⊢;simp only at h⊢;split at h
   ·exact⟨h.1,fun b hb=>j _ _ (h.2 b hb)⟩
   ·exact⟨h.1,fun b hb=>j _ _ (h.2 b hb)⟩
   ·exact h.elim
  case next x b=>
   unfold D0 at h⊢;simp only at h⊢;split at h
   ·split at h
    ·rename_i h1 o _ _ _ _;exact⟨fun g=>j _ _ (h.1 g),fun g=>j _ _ (h.2 g)⟩
    ·exact h.elim
   ·split at h
    ·exact⟨fun i p J C=>j _ _ (h.1 i p J C),fun g=>j _ _ (h.2 g)⟩
    ·exact h.elim
   ·exact h.elim
  case entry x=>
   unfold D0 at h⊢;simp only at h⊢;split at h
   ·split at h
    ·obtain⟨i,p,J,C,L⟩:=h;exact⟨i,p,J,C,j _ _ L⟩
    ·exact h.elim
   ·exact h.elim
  case convert s t x=>
   have e1:A2h P ev H K s t x→A2h P ev H M s t x:=fun h=>by
    unfold A2h at h⊢;split at h
    ·exact⟨h.1,h.2.1,fun b hb=>j _ _ (h.2.2 b hb)⟩
    ·rcases h with⟨h1,o,z,y,A⟩|⟨h1,o,b,z,y,A,h5,q⟩
     ·exact .inl ⟨h1,o,z,y,j _ _ A⟩
     ·exact .inr ⟨h1,o,b,z,y,A,h5,j _ _ q⟩
   simp only[D0]at h⊢;exact e1 h
  case call cc=>
   obtain⟨callee,args,a0⟩:=cc;cases callee with
   |value f=>
    unfold D0 at h⊢;simp only at h⊢;split at h
    ·exact ACalls.mono h j
    ·exact h.elim
   |invoke r m=>unfold D0 at h;simp only at h;try(split at h<;>first|exact h.elim|(rename_i G;exact absurd G hc))
   |builtin b=>
    cases b
    case append=>
     unfold D0 at h⊢;simp only at h⊢;split at h
     ·unfold A1F at h⊢;obtain⟨e,sz,u,h1,o,y,A,xs,h5,q⟩:=h;refine⟨e,sz,u,h1,o,y,A,xs,h5,?_⟩;split at q
      ·exact⟨q.1,q.2.1,fun g=>j _ _ (q.2.2.1 g),fun g b hb=>j _ _ (q.2.2.2 g b hb)⟩
      ·refine⟨q.1,?_⟩;rcases q.2 with⟨J,es,C,L,V,W,X⟩|⟨es,C,L,V,W,X⟩
       ·exact .inl ⟨J,es,C,L,V,W,fun Y I=>j _ _ (X Y I)⟩
       ·exact .inr ⟨es,C,L,V,W,fun Y pre I=>j _ _ (X Y pre I)⟩
      ·exact q.elim
     ·exact h.elim
    case len=>
     have e1:(match args.toList with| [x]=>∃kvs,X7 H (ev x)=some kvs∧K (.int .i64 kvs.length) H|_=>False)→(match args.toList with| [x]=>∃kvs,X7 H (ev x)=some kvs∧M (.int .i64 kvs.length) H|_=>False):=fun h=>by
      split at h
      ·obtain⟨kvs,h1,o⟩:=h;exact⟨kvs,h1,j _ _ o⟩
      ·exact h.elim
     unfold D0 at h⊢;simp only at h⊢;exact e1 h
    all_goals
     unfold D0 at h;simp only at h
     try(split at h<;>first|exact h.elim|(rename_i G;exact absurd G hc))
  case makeMap t r=>
   cases r with
   |none=>exact fun b hb=>j _ _ (h b hb)
   |some x=>unfold D0 at h;simp only at h;try(split at h<;>first|exact h.elim|(rename_i G;exact absurd G hc))
  all_goals (unfold D0 at h;simp only at h;try(split at h<;>first|exact h.elim|(rename_i G;exact absurd G hc)))
def B5U(bl:List Nat)(ev:Operand→D):Op→Prop
 | .load _ x=>∀b∈rdB (ev x),b∈bl
 |_=>False
abbrev Kg:=FEnv→Heap→Prop
def B1g(P:Program)(bl:List Nat)(o:Oper)(K:Kg)(F:FEnv)(H:Heap):Prop:=
 o.guard=none∧(I2 P o.op= .load→B5U bl F.ev o.op)∧D0 P F.ev H (fun d H'=>(∀k∈bl,H' k=H k)∧K (F.put o.dst d) H') o.op
theorem B36{o:Oper}{K e:Kg}(h: ∀F H,K F H→e F H){F:FEnv}{H:Heap}(hk:B1g P bl o K F H):B1g P bl o e F H:=
 ⟨hk.1,hk.2.1,A2K (fun d H' g=>⟨g.1,h _ _ g.2⟩) hk.2.2⟩
def C5c(P:Program)(o:Oper)(K:Kg)(F:FEnv)(H:Heap):Prop:=
 o.guard=none∧D0 P F.ev H (fun d H'=>K (F.put o.dst d) H') o.op
def Yld(P:Program)(bl:List Nat)(o:Oper)(d:D)(F:FEnv)(H:Heap):Prop:=
 (I2 P o.op= .pure∧K8 P F.ev o.op=some d)∨∃t x,o.op= .load t x∧(∀b∈rdB (F.ev x),b∈bl)∧w9 P t (F.ev x) H=some d
theorem C2M{o:Oper}{K:Kg}{F:FEnv}{H:Heap}(hc:I2 P o.op≠ .eff)(h:B1g P bl o K F H):o.guard=none∧∃d,Yld P bl o d F H∧K (F.put o.dst d) H:=by
 obtain⟨h1,j,g⟩:=h;refine⟨h1,?_⟩;cases e:I2 P o.op with
 |pure=>
  rw[A0v e]at g;obtain⟨d,i,_,h5⟩:=g;exact⟨d,.inl ⟨e,i⟩,h5⟩
 |load=>
  have hr:=j e;obtain⟨dst,op,ty,pos,after,guard⟩:=o;cases op<;>try exact hr.elim
  rename_i t x;obtain⟨d,i,_,h5⟩:=g;exact⟨d,.inr ⟨t,x,rfl,hr,i⟩,h5⟩
 |eff=>exact absurd e hc
theorem A50{o:Oper}{K:Kg}{F:FEnv}{H:Heap}{d:D}(e:o.guard=none)(i:Yld P bl o d F H)(h:K (F.put o.dst d) H):B1g P bl o K F H:=by
 rcases i with⟨hc,hp⟩|⟨t,x,ho,hr,hl⟩
 ·refine⟨e,(fun g=>by rw[hc]at g;cases g),?_⟩;rw[A0v hc];exact⟨d,hp,fun _ _=>rfl,h⟩
 ·refine⟨e,fun _=>by rw[ho];exact hr,?_⟩;rw[ho];exact⟨d,hl,fun _ _=>rfl,h⟩
theorem Yld.keep{ops:Array Oper}{o:Oper}{d:D}{F:FEnv}{H H':Heap}{dst:Option Tmp}{e:D}(h:Yld P bl o d F H)(i: ∀t,dst=some t→t∉o.looksAt ops)(j: ∀k∈bl,H' k=H k):Yld P bl o d (F.put dst e) H':=by
 have g:=Q3 (F:=F) (ops:=ops) (o:=o) (dst:=dst) (d:=e) i;rcases h with⟨hc,hp⟩|⟨t,x,ho,hr,hl⟩
 ·exact .inl ⟨hc,by rw[A1p hc g];exact hp⟩
 ·have hx:=g x (by rw[ho];simp[Op.operands]);refine .inr ⟨t,x,ho,by rw[hx];exact hr,?_⟩;rw[hx];unfold w9 at hl⊢;obtain⟨s,hs,hl⟩:=D0k.1 hl;obtain⟨cs,hc,hl⟩:=D0k.1 hl;rw[hs,D02,A7H hc (fun b hb=>j b (hr b hb)),D02];exact hl
section
variable {ops:Array Oper} {md:Region.Mode}
def A2j(P:Program)(ops:Array Oper)(j:Nat):Bool:=match ops[j]? with
 |some o=>I2 P o.op== .eff&&(List.range ops.size).all fun i=>match ops[i]? with
  |some oi=>I2 P oi.op== .eff||o.after.any fun e=>Region.binds .any e&&e.on==i
  |none=>true
 |none=>false
theorem A2L{j:Nat}{o:Oper}(ho:ops[j]? =some o)(h:I2 P o.op≠ .eff):A2j P ops j=false:=by
 cases g:A2j P ops j with
 |false=>rfl
 |true=>
  unfold A2j at g;rw[ho]at g;simp only[D0l,beq_iff_eq]at g;exact absurd g.1 h
theorem B1h{i j:Nat}{d oj:Oper}(m:ops[i]? =some d)(o:ops[j]? =some oj)(h:I2 P d.op≠ .eff)(g:A2j P ops j=true): ∃e∈oj.after,Region.binds .any e=true∧e.on=i:=by
 unfold A2j at g;rw[o]at g;simp only[D0l,D09,List.mem_range]at g;have:=g.2 i (D0x.1 m).1;rw[m]at this;simp only[D1v,beq_iff_eq]at this;rcases this with k|k
 ·exact absurd k h
 ·obtain⟨e,he,hb⟩:=Array.any_eq_true'.1 k;simp only[D0l,beq_iff_eq]at hb;exact⟨e,he,hb.1,hb.2⟩
theorem A8I{o:Oper}{d:D}{F:FEnv}{H:Heap}(h:Yld P bl o d F H):I2 P o.op≠ .eff:=by
 rcases h with⟨hc,_⟩|⟨t,x,ho,_⟩
 ·rw[hc];intro e;cases e
 ·rw[ho];intro e;simp[I2]at e
def sG(P:Program)(bl:List Nat)(ops:Array Oper)(i:Nat)(K:Kg):Kg:=match ops[i]? with
 |none=>K
 |some o=>B1g P (if A2j P ops i=true then []else bl) o K
theorem B8j{i:Nat}{K d:Kg}(h: ∀F H,K F H→d F H){F:FEnv}{H:Heap}(hk:sG P bl ops i K F H):sG P bl ops i d F H:=by
 unfold sG at hk⊢;cases e:ops[i]? with
 |none=>rw[e]at hk;exact h _ _ hk
 |some o=>rw[e]at hk;exact B36 h hk
def A8J(P:Program)(bl:List Nat)(md:Region.Mode)(ops:Array Oper)(K:Kg):Nat→Array Bool→Kg
 |0,listed=>fun F H=>Region.ready md ops listed= []∧K F H
 |fuel+1,listed=>fun F H=>(Region.ready md ops listed= []→K F H)∧∀i∈Region.ready md ops listed,sG P bl ops i (A8J P bl md ops K fuel (listed.setIfInBounds i true)) F H
theorem B1i{K:Kg}{i:Nat}{r:Oper}{d:D}{W:Nat→Prop}(C:ops[i]? =some r)(G:r.guard=none)(hW:Closed .any ops i W):
  ∀(fuel:Nat) (m:Array Bool) (F:FEnv) (H:Heap),(∀j,W j→m.getD j false=false)→
   (∀j oj,ops[j]? =some oj→¬W j→m.getD j true=false→r.apart ops oj=true)→
   i∈Region.ready .any ops m→Yld P bl r d F H→A8J P bl .any ops K fuel (m.setIfInBounds i true) (F.put r.dst d) H→A8J P bl .any ops K (fuel+1) m F H:=by
 intro fuel
 induction fuel with
 |zero=>
  intro m F H _ _ hr z h;refine⟨fun V=>(by rw[V]at hr;cases hr),fun j I=>?_⟩;by_cases p:j=i
  ·subst p;unfold sG;simp only[C,A2L C (A8I z),D0o,if_false];exact A50 G z h
  ·have:=ready_mono I p;rw[h.1]at this;cases this
 |succ fuel ih=>
  intro m F H J q hr z h;refine⟨fun V=>(by rw[V]at hr;cases hr),fun j I=>?_⟩;by_cases p:j=i
  ·subst p;unfold sG;simp only[C,A2L C (A8I z),D0o,if_false];exact A50 G z h
  ·obtain⟨y,oj,A,X⟩:=mem_ready.1 I;have Y:A2j P ops j=false:=by
    cases g:A2j P ops j with
    |false=>rfl
    |true=>
     obtain⟨e,he,hb,rfl⟩:=B1h C A (A8I z) g;have h1:=X e he hb;obtain⟨L,_⟩:=mem_ready.1 hr;rw[I8 L]at h1;cases h1
   have M:=hW.not_ready J I p;have a0:=q j oj A M y;obtain⟨a1,a2,a3⟩:=Oper.apart_spec a0;have O: ∀k,W k→(m.setIfInBounds j true).getD k false=false:=fun k hk=>by
    rw[V4 (fun e:j=k=>M (by rw[e];exact hk))];exact J k hk
   have u: ∀k ok,ops[k]? =some ok→¬W k→(m.setIfInBounds j true).getD k true=false→r.apart ops ok=true:=fun k ok hk a4 hu=>by
    refine q k ok hk a4 ?_;by_cases T:j=k
    ·subst T;exact y
    ·rw[getD_set_ne true T]at hu;exact hu
   have h1:=h.2 j (ready_mono I p);unfold sG at h1⊢;simp only[A,Y,D0o,if_false]at h1⊢;obtain⟨g1,g2,g3⟩:=h1;have U:=Q3 (F:=F) (ops:=ops) (o:=oj) (dst:=r.dst) (d:=d) a1;refine⟨g1,fun hl=>?_,?_⟩
   ·have a5:=g2 hl;have key: ∀op:Op,(∀x∈op.operands.toList,(F.put r.dst d).ev x=F.ev x)→B5U bl (F.put r.dst d).ev op→B5U bl F.ev op:=fun op hv hr=>by
     cases op with
     |load t x=>
      have hx:=hv x (by simp[Op.operands]);show∀b∈rdB (F.ev x),b∈bl;rw[←hx];exact hr
     |_=>exact hr.elim
    exact key _ U a5
   ·rw[B1f U]at g3;refine A2K (fun e H' hk=>⟨hk.1,ih (m.setIfInBounds j true) (F.put oj.dst e) H' O u (ready_mono hr (Ne.symm p)) (z.keep a3 hk.1) ?_⟩) g3;rw[Array.setIfInBounds_comm _ _ p,←A1r a2];exact hk.2
theorem B37{K:Kg}{i:Nat}{r:Oper}{W:Nat→Prop}(y:ops[i]? =some r)(u:Closed .any ops i W)(fuel:Nat)(d:Array Bool)(F:FEnv)(H:Heap)(o: ∀j,W j→d.getD j false=false)
  (e: ∀j oj,ops[j]? =some oj→d.getD j true=false→W j) (hr:i∈Region.ready .any ops d) (h:sG P bl ops i (A8J P bl .any ops K fuel (d.setIfInBounds i true)) F H):A8J P bl .any ops K (fuel+1) d F H:=by
 refine⟨fun x=>(by rw[x]at hr;cases hr),fun j q=>?_⟩;by_cases g:j=i
 ·subst g;exact h
 ·obtain⟨m,oj,p,_⟩:=mem_ready.1 q;exact absurd (e j oj p m) (u.not_ready o q g)
def C06(ops:Array Oper)(i:Nat)(acc:List Nat)(j:Nat):Bool:=match ops[j]? with
 |some o=>o.after.any fun e=>Region.binds .any e&&(e.on==i||acc.contains e.on)
 |none=>false
def A4o(ops:Array Oper)(i:Nat):List Nat→List Nat→List Nat
 | [],acc=>acc
 |j::l,acc=>A4o ops i l (if C06 ops i acc j=true then j::acc else acc)
def J9(P:Program)(ops:Array Oper):List Nat→List Nat→Bool
 | [],done=>(List.range ops.size).all fun i=>done.contains i
 |i::l,done=>(match ops[i]? with
  |some o=>(o.after.all fun e=> !Region.binds .any e||done.contains e.on)&&o.guard.isNone&& !done.contains i&& !l.contains i&&
    l.all fun j=>(A4o ops i l []).contains j||(I2 P o.op != .eff&&match ops[j]? with|some oj=>o.apart ops oj|none=>false)
  |none=>false)&&J9 P ops l (i::done)
def B5V(P:Program)(ops:Array Oper)(perm:List Nat):Bool:=decide (perm.length=ops.size)&&J9 P ops perm []&&match perm.getLast? with|some i=>A2j P ops i|none=>true
theorem A1M{i:Nat}: ∀(l m:List Nat),(∀j∈m,∃oj,ops[j]? =some oj∧∃e∈oj.after,Region.binds .any e=true∧(e.on=i∨e.on∈m))→
  (∀j∈A4o ops i l m,∃oj,ops[j]? =some oj∧∃e∈oj.after,Region.binds .any e=true∧(e.on=i∨e.on∈A4o ops i l m))∧(∀j∈m,j∈A4o ops i l m)∧∀j∈A4o ops i l m,j∈m∨j∈l
 | [],m,h=>⟨h,fun j p=>p,fun j p=>.inl p⟩
 |k::l,m,h=>by
  unfold A4o;split
  ·rename_i hc;have q: ∃oj,ops[k]? =some oj∧∃e∈oj.after,Region.binds .any e=true∧(e.on=i∨e.on∈m):=by
    unfold C06 at hc;split at hc
    ·rename_i o ho;obtain⟨e,he,hb⟩:=Array.any_eq_true'.1 hc;simp only[D0l,D1v,beq_iff_eq,List.contains_iff_mem]at hb;exact⟨o,ho,e,he,hb.1,hb.2⟩
    ·cases hc
   obtain⟨h1,r,u⟩:=A1M l (k::m) (fun j p=>by
    rcases D00.1 p with rfl|p
    ·obtain⟨oj,a,e,b,c,d⟩:=q;exact⟨oj,a,e,b,c,d.imp id (D0q _)⟩
    ·obtain⟨oj,a,e,b,c,d⟩:=h j p;exact⟨oj,a,e,b,c,d.imp id (D0q _)⟩)
   exact⟨h1,fun j p=>r j (D0q _ p),fun j p=>by
    rcases u j p with g|g
    ·rcases D00.1 g with rfl|g
     ·exact .inr (D0j ..)
     ·exact .inl g
    ·exact .inr (D0q _ g)⟩
  ·obtain⟨h1,r,u⟩:=A1M l m h;exact⟨h1,r,fun j p=>(u j p).imp id (D0q _)⟩
def B5W(P:Program)(bl:List Nat)(ops:Array Oper)(K:Kg):List Nat→Kg
 | []=>K
 |i::l=>sG P bl ops i (B5W P bl ops K l)
theorem B38{K:Kg}: ∀(l done:List Nat) (m:Array Bool),(∀j,m.getD j false=true↔j∈done)→m.size=ops.size→J9 P ops l done=true→
  ∀F H,B5W P bl ops K l F H→A8J P bl .any ops K l.length m F H:=by
 intro l
 induction l with
 |nil=>
  intro done m L hsz p F H h;refine⟨?_,h⟩;cases hr:Region.ready .any ops m with
  |nil=>rfl
  |cons x xs=>
   exfalso;have hx:x∈Region.ready .any ops m:=by rw[hr];simp
   obtain⟨h0,o,ho,_⟩:=mem_ready.1 hx;have M:=(D0x.1 ho).1;simp only[J9,D09,List.mem_range,List.contains_iff_mem]at p;have:=(L x).2 (p x M);rw[I8 h0]at this;cases this
 |cons i l ih=>
  intro done m L hsz p F H h;simp only[J9,D0l]at p;obtain⟨p,u⟩:=p;cases I:ops[i]? with
  |none=>rw[I]at p;cases p
  |some oi=>
  rw[I]at p;simp only[D0l,Bool.not_eq_true',Option.isNone_iff_eq_none,D09,D1v,List.contains_iff_mem,bne_iff_ne,ne_eq]at p;obtain⟨⟨⟨⟨he,hg⟩,X⟩,Y⟩,A⟩:=p;have b6:=(D0x.1 I).1;have J:i∉done:=fun g=>by rw[List.contains_iff_mem.2 g]at X;cases X
  have b7:i∉l:=fun g=>by rw[List.contains_iff_mem.2 g]at Y;cases Y
  have y:i∈Region.ready .any ops m:=by
   rw[mem_ready];refine⟨?_,oi,I,fun e b0 hb=>?_⟩
   ·have hf:m.getD i false=false:=by
     cases hh:m.getD i false with
     |false=>rfl
     |true=>exact absurd ((L i).1 hh) J
    have O:i<m.size:=by omega
    simp[O]at hf⊢;exact hf
   ·rw[L];rw[Array.all_eq_true_iff_forall_mem]at he;have:=he e b0;simpa [hb]using this
  have b1: ∀j,(m.setIfInBounds i true).getD j false=true↔j∈i::done:=fun j=>by
   by_cases T:i=j
   ·subst T;have O:i<m.size:=by omega
    simp[O]
   ·rw[getD_set_ne false T,L];simp[Ne.symm T]
  have a0:(m.setIfInBounds i true).size=ops.size:=by simpa using hsz
  obtain⟨w1,_,w3⟩:=A1M (ops:=ops) (i:=i) l [] (fun j q=>by cases q)
  let W:Nat→Prop:=fun j=>j=i∨j∈A4o ops i l []
  have a4:Closed .any ops i W:=by
   refine⟨.inl rfl,fun j oj q b2 r=>?_⟩;rcases q with q|q
   ·exact absurd q b2
   ·obtain⟨b8,a,e,b,c,d⟩:=w1 j q;rw[r]at a;cases a;exact⟨e,b,c,d⟩
  --what comes later is not listed
  have C: ∀(l done:List Nat),J9 P ops l done=true→∀j∈l,j∉done:=by
   intro l
   induction l with
   |nil=>intro _ _ j q;cases q
   |cons k l U=>
    intro done p j q;simp only[J9,D0l]at p;obtain⟨p,b3⟩:=p;rcases D00.1 q with rfl|q
    ·split at p
     ·simp only[D0l,Bool.not_eq_true']at p;intro g;rw[List.contains_iff_mem.2 g]at p;simp at p
     ·cases p
    ·exact fun g=>U (k::done) b3 j q (D0q _ g)
  have a5: ∀j,W j→m.getD j false=false:=fun j q=>by
   cases hh:m.getD j false with
   |false=>rfl
   |true=>
    have hd:=(L j).1 hh;rcases q with rfl|q
    ·exact absurd hd J
    ·rcases w3 j q with g|g
     ·cases g
     ·exact absurd (D0q _ hd) (C l (i::done) u j g)
  --all that is not listed stands in the list
  have G: ∀(l done:List Nat),J9 P ops l done=true→∀j,j<ops.size→j∈done∨j∈l:=by
   intro l
   induction l with
   |nil=>
    intro done p j q;simp only[J9,D09,List.mem_range,List.contains_iff_mem]at p;exact .inl (p j q)
   |cons k l U=>
    intro done p j q;simp only[J9,D0l]at p;rcases U (k::done) p.2 j q with g|g
    ·rcases D00.1 g with rfl|g
     ·exact .inr (D0j ..)
     ·exact .inl g
    ·exact .inr (D0q _ g)
  have z: ∀j oj,ops[j]? =some oj→m.getD j true=false→j=i∨j∈l:=fun j oj r hu=>by
   have M:=(D0x.1 r).1;have hf:=I8 hu;rcases G l (i::done) u j M with g|g
   ·rcases D00.1 g with rfl|g
    ·exact .inl rfl
    ·rw[(L j).2 g]at hf;cases hf
   ·exact .inr g
  have hst:sG P bl ops i (A8J P bl .any ops K l.length (m.setIfInBounds i true)) F H:=B8j (fun F' H' g=>ih (i::done) _ b1 a0 u F' H' g) h;by_cases hc:I2 P oi.op= .eff
  ·refine B37 I a4 l.length m F H a5 (fun j oj r hu=>?_) y hst;rcases z j oj r hu with rfl|V
   ·exact .inl rfl
   ·rcases A j V with g|g
    ·exact .inr g
    ·exact absurd hc g.1
  ·have a6:B1g P bl oi (A8J P bl .any ops K l.length (m.setIfInBounds i true)) F H:=by
    unfold sG at hst;simpa only[I,A2L I hc,D0o,if_false]using hst
   obtain⟨b4,d,hy,hK⟩:=C2M hc a6;refine B1i I b4 a4 l.length m F H a5 (fun j oj r a9 hu=>?_) y hy hK;rcases z j oj r hu with rfl|V
   ·exact absurd (.inl rfl) a9
   ·rcases A j V with g|g
    ·exact absurd (.inr g) a9
    ·have:=g.2;rw[r]at this;exact this
structure StO(N:Nat)(w0:World)(H0:Heap)(F:FEnv)(H:Heap)(a:Act)(w:World):Prop where
 size:a.tmps.size=N
 defers:a.defers= []
 env: ∀i,R w H (F i) (a.eval (.tmp i))
 sat:Sat H w
 ext:Ext H0 w0 w
 frm:From w0 H0 H
theorem StO.evR{N:Nat}{w0:World}{H0:Heap}{F:FEnv}{a:Act}{w:World}(h:StO N w0 H0 F H a w)(x:Operand):R w H (F.ev x) (a.eval x):=by
 cases x with
 |tmp t=>exact h.env t
 |const v=>exact A2F w H v
 |global g=>exact .glob g
 |func f=>exact .fn _ _ _ _ _ rfl rfl (by simp) (by simp)
theorem A51{N:Nat}{w0:World}{H0:Heap}{o:Oper}{K:Kg}{F:FEnv}{a:Act}{w:World}(q: ∀t,o.dst=some t→t<N)(h:C5c P o K F H)(hst:StO N w0 H0 F H a w):
  opSem P none o a w fun v w'=>∃p H',StO N w0 H0 p H' (a.put o.dst v) w'∧K p H':=by
 refine(N3 (o:=o) hst.sat hst.evR h.2).mono fun v w' hp=>?_;obtain⟨d,H',r,u,j,m,hk⟩:=hp;refine⟨F.put o.dst d,H',⟨?_,?_,fun i=>?_,u,hst.ext.trans hst.frm j,hst.frm.trans hst.ext.size m⟩,hk⟩
 ·cases e:o.dst<;>simp[Act.put,hst.size]
 ·cases e:o.dst<;>simp[Act.put,hst.defers]
 ·cases e:o.dst with
  |none=>exact(hst.env i).mono j m
  |some t=>
   have x:=q t e;simp only[FEnv.put];by_cases g:t=i
   ·subst g;rw[if_pos rfl];have:(a.put (some t) v).eval (.tmp t)=v:=by
     have y:t<a.tmps.size:=by rw[hst.size];exact x
     simp[Act.eval,Act.put,y]
    rw[this];exact r
   ·rw[if_neg g];have:(a.put (some t) v).eval (.tmp i)=a.eval (.tmp i):=by
     simp[Act.eval,Act.put,D1C g]
    rw[this];exact(hst.env i).mono j m
theorem B1j{N:Nat}{w0:World}{H0:Heap}{o:Oper}{K:Kg}{F:FEnv}{a:Act}{w:World}(e: ∀t,o.dst=some t→t<N)(h:B1g P bl o K F H)(hst:StO N w0 H0 F H a w):
  opSem P none o a w fun v w'=>∃d H',StO N w0 H0 d H' (a.put o.dst v) w'∧K d H':=A51 e ⟨h.1,A2K (fun _ _ g=>g.2) h.2.2⟩ hst
theorem A2t{N:Nat}{w0:World}{H0:Heap}{K:Kg}{Q:Exit→Act→World→Prop}(m: ∀o∈ops.toList,∀t,o.dst=some t→t<N)
  (j: ∀F H a w,StO N w0 H0 F H a w→K F H→Q .normal a w): ∀(fuel:Nat) (d:Array Bool) (F:FEnv) (H:Heap) (a:Act) (w:World),
  A8J P bl md ops K fuel d F H→StO N w0 H0 F H a w→Go.wpAny P md ops Q fuel d a w
 |0,_,F,H,a,w,h,hst=>⟨h.1,j _ _ _ _ hst h.2⟩
 |fuel+1,d,F,H,a,w,h,hst=>⟨fun p=>j _ _ _ _ hst (h.1 p),fun i q=>by
   have h1:=h.2 i q;unfold sG at h1;unfold Go.wpOp;split
   ·rename_i hn;simp only[hn]at h1;exact A2t m j fuel _ _ _ _ _ h1 hst
   ·rename_i o ho;simp only[ho]at h1;have e:o∈ops.toList:=by rw[D1D];exact Array.mem_of_getElem? ho
    rw[if_pos (by simp[Region.wanted,h1.1])];exact .inl (opSem.wp ((B1j (m o e) h1 hst).mono fun v w' hv=>by
     obtain⟨r,H',g,hk⟩:=hv;exact A2t m j fuel _ _ _ _ _ hk g))⟩
def A1s:List Oper→Nat→Option Oper
 | [],_=>none
 |o::_,0=>some o
 |_::l,i+1=>A1s l i
theorem A9x: ∀(l:List Oper) (i:Nat),A1s l i=l[i]?
 | [],_=>rfl
 |_::_,0=>rfl
 |_::l,i+1=>by rw[A1s,A9x l i];rfl
def wpG(P:Program)(bl:List Nat)(K:Env→Heap→Prop):List (Option Oper)→Env→Heap→Prop
 | [],E,H=>K E H
 |none::l,E,H=>False
 |some o::l,E,H=>(I2 P o.op= .load→B5U bl E.ev o.op)∧D0 P E.ev H (fun d H'=>(l= []∨∀k∈bl,H' k=H k)∧wpG P bl K l (E.put o.dst d) H') o.op
theorem A9y{K:Env→Heap→Prop}(y: ∀(i:Nat) (o:Oper),ops[i]? =some o→o.guard=none): ∀(l:List Nat) (E:Env) (F:FEnv) (H:Heap),(∀i,l.getLast?=some i→A2j P ops i=true)→(∀t,E.get t=F t)→wpG P bl K (l.map (A1s ops.toList)) E H→
  B5W P bl ops (fun F H=>∃E,(∀t,E.get t=F t)∧K E H) l F H
 | [],E,F,H,hl,p,h=>⟨E,p,h⟩
 |i::l,E,F,H,hl,p,h=>by
  have q:F.ev=E.ev:=by
   funext x
   cases x with
   |tmp t=>exact(p t).symm
   |_=>rfl
  show sG P bl ops i _ F H;unfold sG;rw[D1p,A9x,Array.getElem?_toList]at h;cases m:ops[i]? with
  |none=>rw[m]at h;exact h.elim
  |some o=>
   rw[m]at h;obtain⟨h1,z⟩:=h;simp only;refine⟨y i o m,fun hc=>?_,?_⟩
   ·rw[A2L m (by rw[hc];intro e;cases e),q];exact h1 hc
   rw[q];refine A2K (fun d H' hk=>⟨fun k j=>?_,A9y y l (E.put o.dst d) _ H' (fun i m=>?_) (fun t=>?_) hk.2⟩) z
   ·rcases hk.1 with g|g
    ·have r:l= []:=by simpa using g
     subst r;rw[hl i (by simp)]at j;simp at j
    ·refine g k ?_;split at j
     ·cases j
     ·exact j
   ·refine hl i ?_;cases l with
    |nil=>cases m
    |cons x l=>rw[List.getLast?_cons_cons];exact m
   cases o.dst with
   |none=>exact p t
   |some u=>
    simp only[Env.put,Env.get,FEnv.put];split
    ·rfl
    ·exact p t
theorem A4p: ∀(l done:List Nat),J9 P ops l done=true→∀(i:Nat) (o:Oper),i∈l→ops[i]? =some o→o.guard=none
 | [],_,_,i,_,d,_=>by cases d
 |k::l,done,h,i,o,d,ho=>by
  simp only[J9,D0l]at h;rcases D00.1 d with rfl|d
  ·rw[ho]at h;simp only[D0l,Option.isNone_iff_eq_none]at h;exact h.1.1.1.1.2
  ·exact A4p l (k::done) h.2 i o d ho
theorem okOrd_cover: ∀(l done:List Nat),J9 P ops l done=true→∀j,j<ops.size→j∈done∨j∈l
 | [],done,h,j,d=>by
  simp only[J9,D09,List.mem_range,List.contains_iff_mem]at h;exact .inl (h j d)
 |k::l,done,h,j,d=>by
  simp only[J9,D0l]at h;rcases okOrd_cover l (k::done) h.2 j d with g|g
  ·rcases D00.1 g with rfl|g
   ·exact .inr (D0j ..)
   ·exact .inl g
  ·exact .inr (D0q _ g)
theorem B5X{N:Nat}{w0:World}{H0:Heap}{id:Nat}{perm:List Nat}{K:Env→Heap→Prop}{Q:Exit→Act→World→Prop}{a:Act}{w:World}{E:Env}(hm:P.follows .mixedOrders=true)(d:B5V P ops perm=true)
  (q: ∀o∈ops.toList,∀t,o.dst=some t→t<N)
  (r: ∀E H a w,a.tmps.size=N→a.defers= []→(∀i,R w H (E.get i) (a.eval (.tmp i)))→Sat H w→Ext H0 w0 w→From w0 H0 H→K E H→Q .normal a w)
  (h1:a.tmps.size=N) (u:a.defers= []) (x: ∀i,R w H (E.get i) (a.eval (.tmp i))) (y:Sat H w) (h5:Ext H0 w0 w) (p:From w0 H0 H)
  (h:wpG P bl K (perm.map (A1s ops.toList)) E H):(Code.region id ops true).wp P Q a w:=by
 simp only[B5V,D0l,D0u]at d;obtain⟨⟨hlen,d⟩,e⟩:=d;have z: ∀(i:Nat) (o:Oper),ops[i]? =some o→o.guard=none:=fun i o ho=>by
  rcases okOrd_cover perm [] d i (D0x.1 ho).1 with g|g
  ·cases g
  ·exact A4p perm [] d i o g ho
 have he:Ext H w {w with drawn:=w.drawn+1}:=Ext.drewN H w 1;have m:=y.same (w':={w with drawn:=w.drawn+1}) rfl he;refine wp_region_any hm ?_;rw[←hlen];refine A2t (P:=P) (bl:=bl) (md:=.any) (ops:=ops) (N:=N) (w0:=w0) (H0:=H0) (K:=fun F H=>∃E,(∀t,E.get t=F t)∧K E H) q (fun F H a w hst hk=>?_) perm.length _ E.get H a _ ?_ ?_
 ·obtain⟨E,A,hk⟩:=hk;exact r E H a w hst.size hst.defers (fun i=>by rw[A];exact hst.env i) hst.sat hst.ext hst.frm hk
 ·exact B38 perm [] _ (fun j=>by simp[Array.getElem?_replicate];split<;>simp) (by simp[hlen]) d E.get H (A9y z perm E E.get H (fun i C=>by rw[C]at e;exact e) (fun _=>rfl) h)
 ·exact⟨h1,u,fun i=>(x i).mono he (D15 _ _),m,h5.trans p he,p⟩
def C2N(P:Program)(ops:Array Oper)(K:Kg):Nat→Array Bool→Kg
 |0,listed=>fun F H=>Region.ready .any ops listed= []∧K F H
 |fuel+1,listed=>fun F H=>(Region.ready .any ops listed= []→K F H)∧∀i∈Region.ready .any ops listed,∀o,ops[i]? =some o→C5c P o (C2N P ops K fuel (listed.setIfInBounds i true)) F H
theorem A52{N:Nat}{w0:World}{H0:Heap}{K:Kg}{Q:Exit→Act→World→Prop}(m: ∀o∈ops.toList,∀t,o.dst=some t→t<N)
  (j: ∀F H a w,StO N w0 H0 F H a w→K F H→Q .normal a w): ∀(fuel:Nat) (d:Array Bool) (F:FEnv) (H:Heap) (a:Act) (w:World),
  C2N P ops K fuel d F H→StO N w0 H0 F H a w→Go.wpAny P .any ops Q fuel d a w
 |0,_,F,H,a,w,h,hst=>⟨h.1,j _ _ _ _ hst h.2⟩
 |fuel+1,d,F,H,a,w,h,hst=>⟨fun q=>j _ _ _ _ hst (h.1 q),fun i p=>by
   have h1:=h.2 i p;unfold Go.wpOp;split
   ·rename_i hn;obtain⟨_,o,ho,_⟩:=mem_ready.1 p;rw[hn]at ho;cases ho
   ·rename_i o ho;have h1:=h1 o ho;have e:o∈ops.toList:=by rw[D1D];exact Array.mem_of_getElem? ho
    rw[if_pos (by simp[Region.wanted,h1.1])];exact .inl (opSem.wp ((A51 (m o e) h1 hst).mono fun v w' hv=>by
     obtain⟨r,H',g,hk⟩:=hv;exact A52 m j fuel _ _ _ _ _ hk g))⟩
def C2O(P:Program)(K:Env→Heap→Prop)(ops:Array Oper)(E:Env)(H:Heap):Prop:=
 C2N P ops (fun F H=>∃E,(∀t,E.get t=F t)∧K E H) ops.size (Array.replicate ops.size false) E.get H
theorem B4A{N:Nat}{w0:World}{H0:Heap}{id:Nat}{K:Env→Heap→Prop}{Q:Exit→Act→World→Prop}{a:Act}{w:World}{E:Env}(hm:P.follows .mixedOrders=true)
  (g: ∀o∈ops.toList,∀t,o.dst=some t→t<N)
  (j: ∀E H a w,a.tmps.size=N→a.defers= []→(∀i,R w H (E.get i) (a.eval (.tmp i)))→Sat H w→Ext H0 w0 w→From w0 H0 H→K E H→Q .normal a w)
  (h1:a.tmps.size=N) (m:a.defers= []) (p: ∀i,R w H (E.get i) (a.eval (.tmp i))) (q:Sat H w) (h5:Ext H0 w0 w) (e:From w0 H0 H)
  (h:C2O P K ops E H):(Code.region id ops true).wp P Q a w:=by
 have he:Ext H w {w with drawn:=w.drawn+1}:=Ext.drewN H w 1;have d:=q.same (w':={w with drawn:=w.drawn+1}) rfl he;refine wp_region_any hm ?_;refine A52 (P:=P) (ops:=ops) (N:=N) (w0:=w0) (H0:=H0) (K:=fun F H=>∃E,(∀t,E.get t=F t)∧K E H) g (fun F H a w hst hk=>?_) ops.size _ E.get H a _ ?_ ?_
 ·obtain⟨E,r,hk⟩:=hk;exact j E H a w hst.size hst.defers (fun i=>by rw[r];exact hst.env i) hst.sat hst.ext hst.frm hk
 ·exact h
 ·exact⟨h1,m,fun i=>(p i).mono he (D15 _ _),d,h5.trans e he,e⟩
end
end
inductive AX where
 |normal
 |exit (id:Nat)
 |ret
def wpOps(P:Program)(gs:List (Option Nat))(K:Env→Heap→Prop):List Oper→Env→Heap→Prop
 | [],E,H=>K E H
 |o::l,E,H=>match o.guard with
  |none=>D0 P E.ev H (fun d H'=>wpOps P gs K l (E.put o.dst d) H') o.op
  |some (j,want)=>A1q E (H9 gs j) want (fun E=>D0 P E.ev H (fun d H'=>wpOps P gs K l (E.put o.dst d) H') o.op) (fun E=>wpOps P gs K l (E.put o.dst (.tuple [])) H)
structure St(N:Nat)(w0:World)(H0:Heap)(E:Env)(H:Heap)(a:Act)(w:World):Prop where
 size:a.tmps.size=N
 defers:a.defers= []
 env: ∀i,R w H (E.get i) (a.eval (.tmp i))
 sat:Sat H w
 ext:Ext H0 w0 w
 frm:From w0 H0 H
def A0w(E0:Env)(H0:Heap)(E:Env)(H:Heap):Prop:=∀(N:Nat) (w0:World) (Hz:Heap) (a:Act) (w:World),St N w0 Hz E H a w→St N w0 Hz E0 H0 a w
def B2l(body:(Env→Heap→Prop)→Env→Heap→Prop)(E:Env)(H:Heap):Prop:=
 ∃(I:Nat→Env→Heap→Prop),(∃n E0 H0,A0w E0 H0 E H∧I n E0 H0)∧∀n E H,I n E H→body (fun E' H'=>∃m E0 H0,m<n∧A0w E0 H0 E' H'∧I m E0 H0) E H
def Env.fix(E:Env)(c:Operand)(b:Bool):Env:=match c with
 | .tmp t=>(t,.bool b)::E
 |_=>E
inductive Rc where
 |rd (sx:Bool)
 |par
 |ord (perm:List Nat)
 |rg
 |wk
 |any
def A0e(id:Nat):List (Nat×Rc)→Option Rc
 | []=>none
 |(i,sx)::Z=>if id=i then some sx else A0e id Z
def A8K(P:Program)(sx:Bool)(bl:List Nat)(K:Env→Heap→Prop):List Oper→Env→Heap→Prop
 | [],E,H=>K E H
 |o::l,E,H=>o.guard=none∧B5G P sx bl E.ev H (fun d H'=>A8K P sx bl K l (E.put o.dst d) H') o.op
def Y6(P:Program)(bl:List Nat)(gs:List (Option Nat))(K:Env→Heap→Prop):List Oper→Env→Heap→Prop
 | [],E,H=>K E H
 |o::l,E,H=>match o.guard with
  |none=>A5m P bl E.ev H (fun d H'=>Y6 P bl gs K l (E.put o.dst d) H') o.op
  |some (j,want)=>A1q E (H9 gs j) want (fun E=>A5m P bl E.ev H (fun d H'=>Y6 P bl gs K l (E.put o.dst d) H') o.op) (fun E=>Y6 P bl gs K l (E.put o.dst (.tuple [])) H)
def wp(P:Program)(Z:List (Nat×Rc)):Code→(AX→Env→Heap→Prop)→Env→Heap→Prop
 | .skip,Q,E,H=>Q .normal E H
 | .region id ops _,Q,E,H=>match A0e id Z with
  |none=>wpOps P (ops.toList.map (·.dst)) (Q .normal) ops.toList E H
  |some (.rd sx)=>∃bl,(∀k∈bl,H k≠none)∧A8K P sx bl (Q .normal) ops.toList E H
  |some .par=>∃(cs:Nat→CR) (bs:Nat→Bl),B34 bs 0 ops.toList∧wpP P (ops.toList.map (·.dst)) cs bs (Q .normal) 0 ops.toList E H
  |some (.ord perm)=>∃bl:List Nat,wpG P bl (Q .normal) (perm.map (A1s ops.toList)) E H
  |some .rg=>∃bl,(∀k∈bl,H k≠none)∧Y6 P bl (ops.toList.map (·.dst)) (Q .normal) ops.toList E H
  |some .wk=>∃E0 H0,A0w E0 H0 E H∧wpOps P (ops.toList.map (·.dst)) (Q .normal) ops.toList E0 H0
  |some .any=>C2O P (Q .normal) ops E H
 | .seq a b,Q,E,H=>wp P Z a (fun x E H=>match x with| .normal=>wp P Z b Q E H| .exit i=>Q (.exit i) E H| .ret=>Q .ret E H) E H
 | .cond c x y,Q,E,H=>∃b,E.ev c= .bool b∧(b=true→wp P Z x Q (E.fix c true) H)∧(b=false→wp P Z y Q (E.fix c false) H)
 | .block id c,Q,E,H=>wp P Z c (fun x E H=>match x with| .normal=>Q .normal E H| .exit i=>if i=id then Q .normal E H else Q (.exit i) E H| .ret=>Q .ret E H) E H
 | .loop c,Q,E,H=>B2l (fun K=>wp P Z c fun x E H=>match x with| .normal=>K E H| .exit i=>Q (.exit i) E H| .ret=>Q .ret E H) E H
 | .exit id,Q,E,H=>Q (.exit id) E H
 | .ret,Q,E,H=>Q .ret E H
 | .scope c,Q,E,H=>wp P Z c Q E H
 | .label _,Q,E,H=>Q .normal E H
 |_,_,_,_=>False
def N4(P:Program)(Z:List (Nat×Rc))(N:Nat):Code→Bool
 | .region id ops d=>(ops.all fun o=>match o.dst with|some t=>decide (t<N)|none=>true)&&(match A0e id Z with|none=> !d||A4C P none ops|some (.rd sx)=> !d||A4C P (some sx) ops|some .par=>d&&B2k P ops|some (.ord perm)=>d&&B5V P ops perm|some .rg=> !d||A4C P (some true) ops|some .wk=> !d||A4C P none ops|some .any=>d)
 | .seq a b=>N4 P Z N a&&N4 P Z N b
 | .cond _ x y=>N4 P Z N x&&N4 P Z N y
 | .block _ c=>N4 P Z N c
 | .loop c=>N4 P Z N c
 | .scope c=>N4 P Z N c
 |_=>true
section
variable {P:Program} {Z:List (Nat×Rc)} {N:Nat} {w0:World} {H0:Heap}
theorem St.ev{E:Env}{H:Heap}{a:Act}{w:World}(h:St N w0 H0 E H a w)(x:Operand):R w H (E.ev x) (a.eval x):=by
 cases x with
 |tmp t=>exact h.env t
 |const v=>exact A2F w H v
 |global g=>exact .glob g
 |func f=>exact .fn _ _ _ _ _ rfl rfl (by simp) (by simp)
theorem St.put{E:Env}{H H':Heap}{a:Act}{w w':World}(h:St N w0 H0 E H a w){dst:Option Tmp}(j: ∀t,dst=some t→t<N){d:D}{v:Value}(hv:R w' H' d v)(hs:Sat H' w')(he:Ext H w w')(g:From w H H'):
  St N w0 H0 (E.put dst d) H' (a.put dst v) w':=by
 refine⟨?_,?_,fun i=>?_,hs,h.ext.trans h.frm he,h.frm.trans h.ext.size g⟩
 ·cases dst<;>simp[Act.put,h.size]
 ·cases dst<;>exact h.defers
 ·cases dst with
  |none=>exact(h.env i).mono he g
  |some t=>
   have m:=j t rfl;simp only[Env.put,Env.get];by_cases e:t=i
   ·subst e;rw[if_pos rfl];have:(a.put (some t) v).eval (.tmp t)=v:=by
     have o:t<a.tmps.size:=by rw[h.size];exact m
     simp[Act.eval,Act.put,o]
    rw[this];exact hv
   ·rw[if_neg e];have:(a.put (some t) v).eval (.tmp i)=a.eval (.tmp i):=by
     simp[Act.eval,Act.put,D1C e]
    rw[this];exact(h.env i).mono he g
theorem St.know{E:Env}{H:Heap}{a:Act}{w:World}(h:St N w0 H0 E H a w){s:Nat}{d:D}(g:E.get s=d):St N w0 H0 ((s,d)::E) H a w:=by
 refine⟨h.size,h.defers,fun i=>?_,h.sat,h.ext,h.frm⟩;simp only[Env.get];by_cases e:s=i
 ·subst e;rw[if_pos rfl,←g];exact h.env s
 ·rw[if_neg e];exact h.env i
theorem St.weak{E d:Env}{H H':Heap}{a:Act}{w:World}(h:St N w0 H0 E H a w)(hw:A0w d H' E H):St N w0 H0 d H' a w:=hw _ _ _ _ _ h
theorem A5P{E e:Env}{H H':Heap}(o: ∀p∈e,E.get p.1=p.2)(hl:H'.Le H):A0w e H' E H:=by
 intro N w0 H0 a w h;refine⟨h.size,h.defers,fun i=>?_,h.sat.less hl,h.ext,h.frm.less hl⟩;have key: ∀(L:Env),(∀p∈L,E.get p.1=p.2)→R w H' (L.get i) (a.eval (.tmp i)):=by
  intro L
  induction L with
  |nil=>intro _;exact .undef _
  |cons p L q=>
   intro g;obtain⟨j,d⟩:=p;simp only[Env.get];by_cases m:j=i
   ·subst m;rw[if_pos rfl];have:=g (j,d) (by simp);simp only at this;rw[←this];exact(h.env j).less hl
   ·rw[if_neg m];exact q (fun p hp=>g p (by simp[hp]))
 exact key e o
theorem A0Q{ops:Array Oper}{K:Env→Heap→Prop}: ∀(l:List Oper) (E:Env) (H:Heap) (a:Act) (w:World),(∀o∈l,∀t,o.dst=some t→t<N)→wpOps P (ops.toList.map (·.dst)) K l E H→St N w0 H0 E H a w→
  wpA P none ops (fun a' w'=>∃i H',St N w0 H0 i H' a' w'∧K i H') l a w:=by
 intro l
 induction l with
 |nil=>intro E H a w _ h hst;exact⟨E,H,hst,h⟩
 |cons o l G=>
  intro E H a w I h hst;have q: ∀o∈l,∀t,o.dst=some t→t<N:=fun o' y=>I o' (by simp[y]);have r:=I o (by simp);have run: ∀E,St N w0 H0 E H a w→D0 P E.ev H (fun d H'=>wpOps P (ops.toList.map (·.dst)) K l (E.put o.dst d) H') o.op→opSem P none o a w fun v w'=>wpA P none ops (fun a' w'=>∃i H',St N w0 H0 i H' a' w'∧K i H') l (a.put o.dst v) w':=by
   intro E hst h;refine(N3 hst.sat hst.ev h).mono fun v w' hp=>?_;obtain⟨d,H',h1,z,L,M,h5⟩:=hp;exact G _ _ _ _ q h5 (hst.put r h1 z L M)
  have skip: ∀E,St N w0 H0 E H a w→wpOps P (ops.toList.map (·.dst)) K l (E.put o.dst (.tuple [])) H→wpA P none ops (fun a' w'=>∃i H',St N w0 H0 i H' a' w'∧K i H') l (a.put o.dst undef) w:=
   fun E hst h=>G _ _ _ _ q h (hst.put r (.tuple [] #[] rfl (by simp)) hst.sat (D16 _ _) (D15 _ _))
  unfold wpOps at h;unfold wpA;split at h
  ·rename_i m;rw[if_pos (by simp[Region.wanted,m])];exact run E hst h
  ·rename_i j g m;have e:H9 (ops.toList.map (·.dst)) j=(ops[j]?).bind (·.dst):=by
    unfold H9;rw[D0v];cases J:ops[j]? with
    |none=>simp[J]
    |some o=>simp[J]
   unfold A1q at h;split at h
   ·rename_i hs;have p:yielded ops a.tmps j=none:=by
     unfold yielded;rw[e]at hs;rw[hs];rfl
    rw[if_neg (by simp[Region.wanted,m,p])];exact skip E hst h
   ·rename_i s hs;rcases h with⟨O,h⟩|⟨b,hb,h1,z⟩
    ·have hv:=hst.env s;rw[O]at hv;obtain⟨vs,hv,_⟩:=hv.tuple_inv;have p:yielded ops a.tmps j=none:=by
      unfold yielded;rw[e]at hs;rw[hs];simp only[D02];simp only[Act.eval]at hv;cases x:a.tmps[s]? with
      |none=>rfl
      |some u=>
       simp[x]at hv;subst hv;rfl
     rw[if_neg (by simp[Region.wanted,m,p])];exact skip E hst h
    have hv:=hst.env s;rw[hb]at hv;have hv:=hv.bool_inv;have p:yielded ops a.tmps j=some b:=by
     unfold yielded;rw[e]at hs;rw[hs];simp only[D02];simp only[Act.eval]at hv;cases x:a.tmps[s]? with
     |none=>
      simp[x]at hv;cases hv
     |some u=>
      simp[x]at hv;subst hv;rfl
    by_cases A:b=g
    ·subst A;rw[if_pos (by simp[Region.wanted,m,p])];exact run _ (hst.know hb) (h1 rfl)
    ·have C:b= !g:=by cases b<;>cases g<;>simp_all
     subst C;rw[if_neg (by simp[Region.wanted,m,p])];exact skip _ (hst.know hb) (z rfl)
theorem A3P{ops:Array Oper}{bl:List Nat}{K:Env→Heap→Prop}: ∀(l:List Oper) (E:Env) (H:Heap) (a:Act) (w:World),(∀o∈l,∀t,o.dst=some t→t<N)→(∀k∈bl,k<w.heap.size)→Y6 P bl (ops.toList.map (·.dst)) K l E H→St N w0 H0 E H a w→
  wpA P (some (true,bl)) ops (fun a' w'=>∃i H',St N w0 H0 i H' a' w'∧K i H') l a w:=by
 intro l
 induction l with
 |nil=>intro E H a w _ _ h hst;exact⟨E,H,hst,h⟩
 |cons o l I=>
  intro E H a w J m h hst;have r: ∀o∈l,∀t,o.dst=some t→t<N:=fun o' z=>J o' (by simp[z]);have x:=J o (by simp);have run: ∀E,St N w0 H0 E H a w→A5m P bl E.ev H (fun d H'=>Y6 P bl (ops.toList.map (·.dst)) K l (E.put o.dst d) H') o.op→opSem P (some (true,bl)) o a w fun v w'=>wpA P (some (true,bl)) ops (fun a' w'=>∃i H',St N w0 H0 i H' a' w'∧K i H') l (a.put o.dst v) w':=by
   intro E hst h;refine(A9o m hst.sat hst.ev h).mono fun v w' hp=>?_;obtain⟨d,H',h1,A,L,O,h5⟩:=hp;exact I _ _ _ _ r (fun k hk=>D1U (m k hk) L.size) h5 (hst.put x h1 A L O)
  have skip: ∀E,St N w0 H0 E H a w→Y6 P bl (ops.toList.map (·.dst)) K l (E.put o.dst (.tuple [])) H→wpA P (some (true,bl)) ops (fun a' w'=>∃i H',St N w0 H0 i H' a' w'∧K i H') l (a.put o.dst undef) w:=
   fun E hst h=>I _ _ _ _ r m h (hst.put x (.tuple [] #[] rfl (by simp)) hst.sat (D16 _ _) (D15 _ _))
  unfold Y6 at h;unfold wpA;split at h
  ·rename_i p;rw[if_pos (by simp[Region.wanted,p])];exact run E hst h
  ·rename_i j g p;have e:H9 (ops.toList.map (·.dst)) j=(ops[j]?).bind (·.dst):=by
    unfold H9;rw[D0v];cases M:ops[j]? with
    |none=>simp[M]
    |some o=>simp[M]
   unfold A1q at h;split at h
   ·rename_i hs;have q:yielded ops a.tmps j=none:=by
     unfold yielded;rw[e]at hs;rw[hs];rfl
    rw[if_neg (by simp[Region.wanted,p,q])];exact skip E hst h
   ·rename_i s hs;rcases h with⟨T,h⟩|⟨b,hb,h1,A⟩
    ·have hv:=hst.env s;rw[T]at hv;obtain⟨vs,hv,_⟩:=hv.tuple_inv;have q:yielded ops a.tmps j=none:=by
      unfold yielded;rw[e]at hs;rw[hs];simp only[D02];simp only[Act.eval]at hv;cases y:a.tmps[s]? with
      |none=>rfl
      |some u=>
       simp[y]at hv;subst hv;rfl
     rw[if_neg (by simp[Region.wanted,p,q])];exact skip E hst h
    have hv:=hst.env s;rw[hb]at hv;have hv:=hv.bool_inv;have q:yielded ops a.tmps j=some b:=by
     unfold yielded;rw[e]at hs;rw[hs];simp only[D02];simp only[Act.eval]at hv;cases y:a.tmps[s]? with
     |none=>
      simp[y]at hv;cases hv
     |some u=>
      simp[y]at hv;subst hv;rfl
    by_cases C:b=g
    ·subst C;rw[if_pos (by simp[Region.wanted,p,q])];exact run _ (hst.know hb) (h1 rfl)
    ·have G:b= !g:=by cases b<;>cases g<;>simp_all
     subst G;rw[if_neg (by simp[Region.wanted,p,q])];exact skip _ (hst.know hb) (A rfl)
theorem A3Q{ops:Array Oper}{sx:Bool}{bl:List Nat}{K:Env→Heap→Prop}: ∀(l:List Oper) (E:Env) (H:Heap) (a:Act) (w:World),(∀o∈l,∀t,o.dst=some t→t<N)→(∀k∈bl,k<w.heap.size)→A8K P sx bl K l E H→St N w0 H0 E H a w→
  wpA P (some (sx,bl)) ops (fun a' w'=>∃i H',St N w0 H0 i H' a' w'∧K i H') l a w:=by
 intro l
 induction l with
 |nil=>intro E H a w _ _ h hst;exact⟨E,H,hst,h⟩
 |cons o l p=>
  intro E H a w j e h hst;obtain⟨q,h⟩:=h;unfold wpA;rw[if_pos (by simp[Region.wanted,q])];refine(A1n e hst.sat hst.ev h).mono fun v w' hp=>?_;obtain⟨d,H',h1,r,m,u,h5⟩:=hp;exact p _ _ _ _ (fun o' g=>j o' (by simp[g])) (fun k hk=>D1U (e k hk) m.size) h5 (hst.put (j o (by simp)) h1 r m u)
def lift(N:Nat)(w0:World)(H0:Heap)(Q:AX→Env→Heap→Prop):Exit→Act→World→Prop
 | .normal,a,w=>∃E H,St N w0 H0 E H a w∧Q .normal E H
 | .exit id,a,w=>∃E H,St N w0 H0 E H a w∧Q (.exit id) E H
 | .ret,a,w=>∃E H,St N w0 H0 E H a w∧Q .ret E H
 |_,_,_=>False
theorem B5Y{c:Code}{Q:Exit→Act→World→Prop}(I:Nat→Act→World→Prop){n:Nat}{a:Act}{w:World}(p:I n a w)
  (g: ∀n a w,I n a w→c.wp P (Exit.then (fun a' w'=>∃m,m<n∧I m a' w') Q) a w):(Code.loop c).wp P Q a w:=by
 intro b k cs;have key: ∀n a w,I n a w→∃e a' w',Q e a' w'∧Arrives P (lone (b.at a (.code c:: .inLoop c::k)) cs w) b k cs e a' w':=by
  intro n
  induction n using Nat.strongRecOn with
  |_ n q=>
   intro a w r;obtain⟨e,a1,i,hq,d⟩:=g n a w r b (.inLoop c::k) cs;cases e with
   |normal=>
    obtain⟨m,hm,j⟩:=hq;obtain⟨e2,a2,u,o,h⟩:=q m hm a1 i j;exact⟨e2,a2,u,o,.of_steps (Steps.trans d (.one step_inLoop)) h⟩
   |exit id=>exact⟨_,a1,i,hq,.pass (x:=.inLoop c) rfl (fun _ _=>.inl (by simp)) d⟩
   |goto l=>exact⟨_,a1,i,hq,.pass (x:=.inLoop c) rfl (fun _ _=>.inl (by simp)) d⟩
   |ret=>exact⟨_,a1,i,hq,.pass (x:=.inLoop c) rfl (fun _ _=>.inl (by simp)) d⟩
   |panic y=>exact⟨_,a1,i,hq,.pass (x:=.inLoop c) rfl (fun _ _=>.inl (by simp)) d⟩
   |outgrown=>exact⟨_,a1,i,hq,.pass (x:=.inLoop c) rfl (fun _ _=>.inl (by simp)) d⟩
 obtain⟨e,a',w',hq,d⟩:=key n a w p;exact⟨e,a',w',hq,.of_steps (.one step_loop) d⟩
theorem y3(hm:P.follows .mixedOrders=true): ∀(c:Code) (Q:AX→Env→Heap→Prop) (E:Env) (H:Heap) (a:Act) (w:World),N4 P Z N c=true→wp P Z c Q E H→St N w0 H0 E H a w→c.wp P (lift N w0 H0 Q) a w:=by
  intro c
  induction c with
  |skip=>intro Q E H a w _ h hst;exact Go.wp_skip ⟨E,H,hst,h⟩
  |region id ops d=>
    intro Q E H a w g h hst;simp only[N4,D0l]at g
    have u: ∀o∈ops.toList,∀t,o.dst=some t→t<N:=fun o ho t U=>by
      have:=Array.all_eq_true_iff_forall_mem.1 g.1 o (by simpa using ho);rw[U]at this;simpa using this
    have he:Ext H w {w with drawn:=w.drawn+1}:=Ext.drewN H w 1;have p:St N w0 H0 E H a {w with drawn:=w.drawn+1}:=⟨hst.size,hst.defers,fun i=>(hst.env i).mono he (D15 _ _),hst.sat.same rfl he,hst.ext.trans hst.frm he,hst.frm⟩
    unfold wp at h;cases hz:A0e id Z with
    |none=>
      rw[hz]at h g;cases d with
      |false=>exact u7 (fun a w h=>h) (A0Q ops.toList E H a w u h hst)
      |true=>exact A3N (F:=none) hm (by simpa using g.2) (fun a w h=>h) (A0Q ops.toList E H a _ u h p)
    |some rc=>
      rw[hz]at h g;cases rc with
      |par=>
        simp only[D0l]at g;obtain⟨_,z,A⟩:=g;subst z;obtain⟨cs,bs,a0,h⟩:=h;exact B5T hm A u (fun E H a w V W X Y k5 k6 hk=>⟨E,H,⟨V,W,X,Y,k5,k6⟩,hk⟩) hst.size hst.defers hst.env hst.sat hst.ext hst.frm a0 h
      |ord perm=>
        simp only[D0l]at g;obtain⟨_,z,A⟩:=g;subst z;obtain⟨bl,h⟩:=h;exact B5X hm A u (fun E H a w V W X Y k5 k6 hk=>⟨E,H,⟨V,W,X,Y,k5,k6⟩,hk⟩) hst.size hst.defers hst.env hst.sat hst.ext hst.frm h
      |any=>
        obtain⟨_,z⟩:=g;subst z;exact B4A hm u (fun E H a w V W X Y k5 k6 hk=>⟨E,H,⟨V,W,X,Y,k5,k6⟩,hk⟩) hst.size hst.defers hst.env hst.sat hst.ext hst.frm h
      |wk=>
        obtain⟨E0,Hh,G,h⟩:=h
        (cases d with
        |false=>exact u7 (fun a w h=>h) (A0Q ops.toList E0 Hh a w u h (hst.weak G))
        |true=>exact A3N (F:=none) hm (by simpa using g.2) (fun a w h=>h) (A0Q ops.toList E0 Hh a _ u h (p.weak G)))
      |rg=>
      obtain⟨bl,L,h⟩:=h
      have C: ∀w:World,Sat H w→∀k∈bl,k<w.heap.size:=fun w hs k hk=>by
        cases ho:H k with
        |none=>exact absurd ho (L k hk)
        |some o=>exact hs.lt ho
      (cases d with
      |false=>exact u7 (fun a w h=>h) (A3P (bl:=bl) ops.toList E H a w u (C _ hst.sat) h hst)
      |true=>exact A3N (F:=some (true,bl)) hm (by simpa using g.2) (fun a w h=>h) (A3P (bl:=bl) ops.toList E H a _ u (C _ p.sat) h p))
      |rd sx=>
      obtain⟨bl,L,h⟩:=h
      have C: ∀w:World,Sat H w→∀k∈bl,k<w.heap.size:=fun w hs k hk=>by
        cases ho:H k with
        |none=>exact absurd ho (L k hk)
        |some o=>exact hs.lt ho
      cases d with
      |false=>exact u7 (fun a w h=>h) (A3Q (sx:=sx) (bl:=bl) ops.toList E H a w u (C _ hst.sat) h hst)
      |true=>exact A3N (F:=some (sx,bl)) hm (by simpa using g.2) (fun a w h=>h) (A3Q (sx:=sx) (bl:=bl) ops.toList E H a _ u (C _ p.sat) h p)
  |seq x y M O=>
    intro Q E H a w g h hst;simp only[N4,D0l]at g;refine Go.wp_seq (Go.wp_mono (M _ E H a w g.1 h hst) fun e a' w' he=>?_);cases e with
    |normal=>obtain⟨r,H',j,q⟩:=he;exact O Q r H' a' w' g.2 q j
    |exit id=>obtain⟨r,H',j,q⟩:=he;exact⟨r,H',j,q⟩
    |ret=>obtain⟨r,H',j,q⟩:=he;exact⟨r,H',j,q⟩
    |_=>exact he.elim
  |cond c x y M O=>
    intro Q E H a w g h hst;simp only[N4,D0l]at g;obtain⟨b,hb,h1,h2⟩:=h;have hv:=hst.ev c;rw[hb]at hv
    have J: ∀b',E.ev c= .bool b'→St N w0 H0 (E.fix c b') H a w:=fun b' a4=>by
      cases c with
      |tmp t=>exact hst.know a4
      |_=>exact hst
    refine Go.wp_cond_split hv.bool_inv (fun U=>?_) (fun U=>?_)
    · subst U;exact M Q _ H a w g.1 (h1 rfl) (J _ hb)
    · subst U;exact O Q _ H a w g.2 (h2 rfl) (J _ hb)
  |block id c ih=>
    intro Q E H a w g h hst;simp only[N4]at g;refine Go.wp_block (Go.wp_mono (ih _ E H a w g h hst) fun e a' w' he=>?_);cases e with
    |normal=>obtain⟨r,H',j,q⟩:=he;exact⟨r,H',j,q⟩
    |exit i=>
      obtain⟨r,H',j,q⟩:=he;simp only[Exit.inBlock];by_cases hi:i=id
      · rw[if_pos hi];simp only[hi,if_true]at q;exact⟨r,H',j,q⟩
      · rw[if_neg hi];simp only[hi,if_false]at q;exact⟨r,H',j,q⟩
    |ret=>obtain⟨r,H',j,q⟩:=he;exact⟨r,H',j,q⟩
    |_=>exact he.elim
  |loop c ih=>
    intro Q E H a w g h hst;simp only[N4]at g;obtain⟨I,⟨n,E0,Hh,hw,hI⟩,T⟩:=h;refine B5Y (fun n a w=>∃E H,St N w0 H0 E H a w∧I n E H) (n:=n) ⟨E0,Hh,hst.weak hw,hI⟩ fun n a w a5=>?_;obtain⟨E1,H1,p,a6⟩:=a5;refine Go.wp_mono (ih _ E1 H1 a w g (T n E1 H1 a6) p) fun e a' w' he=>?_;cases e with
    |normal=>
      obtain⟨r,H',j,m,E2,H2,a9,G,b0⟩:=he;exact⟨m,a9,E2,H2,j.weak G,b0⟩
    |exit id=>obtain⟨r,H',j,q⟩:=he;exact⟨r,H',j,q⟩
    |ret=>obtain⟨r,H',j,q⟩:=he;exact⟨r,H',j,q⟩
    |_=>exact he.elim
  |exit id=>intro Q E H a w _ h hst;exact Go.wp_exit ⟨E,H,hst,h⟩
  |ret=>intro Q E H a w _ h hst;exact Go.wp_ret ⟨E,H,hst,h⟩
  |scope c ih=>
    intro Q E H a w g h hst;simp only[N4]at g;refine Go.wp_scope_straight (Go.wp_mono (ih Q E H a w g h hst) fun e a' w' he=>?_);cases e with
    |goto l=>exact he.elim
    |_=>exact he
  |label l=>intro Q E H a w _ h hst;exact Go.wp_label ⟨E,H,hst,h⟩
  |_=>intro Q E H a w _ h _;exact h.elim
end
def A0R(P:Program)(E:Env)(H:Heap):ResultVar→Option D
 | .tmp t=>some (E.get t)
 | .cell a t=>w9 P t (E.get a) H
def A2u(P:Program)(rs:List ResultVar)(E:Env)(H:Heap):Option D:=(rs.mapM (A0R P E H)).map fun
 | [d]=>d
 |ds=>.tuple ds
def Shift(H:Heap)(d:D)(H':Heap)(d':D):Prop:=∀w v,R w H d v→Sat H w→R w H' d' v∧Sat H' w∧∀k,H.held k=false→H'.held k=false
theorem Shift.less{H H':Heap}(h:H'.Le H)(d:D):Shift H d H' d:=fun _ _ hr hs=>⟨hr.less h,hs.less h,fun _ hn=>h.held hn⟩
theorem Shift.trans{H H' j:Heap}{d d' m:D}(h:Shift H d H' d')(k:Shift H' d' j m):Shift H d j m:=fun w v hr hs=>
 let ⟨a,b,c⟩:=h w v hr hs;let ⟨e,f,g⟩:=k w v a b;⟨e,f,fun i o=>g i (c i o)⟩
def A8L(P:Program)(rs:List ResultVar)(Q:D→Heap→Prop):AX→Env→Heap→Prop
 | .exit _,_,_=>False
 |_,E,H=>∃r,A2u P rs E H=some r∧∃H' r',Shift H r H' r'∧Q r' H'
def V5:Nat→List D→Env
 |_,[]=>[]
 |i,d::ds=>(i,d)::V5 (i+1) ds
section
variable {P:Program}
theorem y4: ∀(ds:List D) (k i:Nat),(V5 k ds).get i=if k≤i then(ds[i-k]?).getD .undef else .undef
 | [],k,i=>by simp[V5,Env.get]
 |d::ds,k,i=>by
  simp only[V5,Env.get];by_cases e:k=i
  ·subst e;rw[if_pos rfl,if_pos (D0s _)];simp
  ·rw[if_neg e,y4 ds];by_cases h:k+1≤i
   ·rw[if_pos h,if_pos (by omega),show i-k=(i-(k+1))+1 by omega,D04]
   ·rw[if_neg h,if_neg (by omega)]
theorem A2M{N:Nat}{w0:World}{H0:Heap}{E:Env}{H:Heap}{a:Act}{w:World}(hst:St N w0 H0 E H a w){fn:Func}{r:D}(h:A2u P fn.results.toList E H=some r):
  ∃v,(results fn a.tmps).run P w= .ok v w∧R w H r v:=by
 unfold A2u at h;obtain⟨ds,G,hr⟩:=D0h.1 h;have key: ∀(p:List ResultVar) (ds:List D),p.mapM (A0R P E H)=some ds→∃vs:List Value,(p.mapM fun(x:ResultVar)=>match x with| .tmp t=>(pure (a.tmps.getD t undef):Sem Value)| .cell b t=>do loadVar t (←asAddr (a.tmps.getD b undef))).run P w= .ok vs w∧ds.length=vs.length∧∀(i:Nat) d,ds[i]? =some d→R w H d (vs.getD i Go.undef):=by
  intro p
  induction p with
  |nil=>intro ds h;simp at h;subst h;exact⟨[],rfl,rfl,by simp⟩
  |cons x p T=>
   intro ds h;simp only[List.mapM_cons,Option.bind_eq_bind,D0k,Option.pure_def]at h;obtain⟨U,C,V,h1,W⟩:=h;cases W;obtain⟨vs,g,hl,e⟩:=T V h1;have one: ∃v,(match x with| .tmp t=>(pure (a.tmps.getD t undef):Sem Value)| .cell b t=>do loadVar t (←asAddr (a.tmps.getD b undef))).run P w= .ok v w∧R w H U v:=by
    cases x with
    |tmp t=>
     simp only[A0R,D1A]at C;subst C;exact⟨_,rfl,hst.env t⟩
    |cell b t=>
     simp only[A0R]at C;obtain⟨u,j,I⟩:=A5n (P:=P) hst.sat C (hst.env b);refine⟨u,?_,I⟩;unfold Instr.loadAt at j;simp only[Act.eval]at j;have J: ∀(z:Value) (A:Addr) (w:World),(Instr.sureAddr z).run P w= .ok A w→(asAddr z).run P w= .ok A w:=by
      intro z A w L;cases z with
      |pointer o=>
       cases o with
       |none=>exact absurd L (by simp[Instr.sureAddr,stuck])
       |some y=>exact L
      |_=>exact absurd L (by simp[Instr.sureAddr,stuck])
     rw[Sem.run_bind]at j⊢;cases hs:(Instr.sureAddr (a.tmps.getD b undef)).run P w with
     |ok A w'=>
      have M:w'=w:=by
       unfold Instr.sureAddr at hs;split at hs
       ·cases hs;rfl
       ·cases hs
      subst M;rw[hs]at j;rw[J _ _ _ hs];exact j
     |halt x w'=>rw[hs]at j;cases j
   obtain⟨v,hv,O⟩:=one;refine⟨v::vs,?_,by simp[hl],fun i d m=>?_⟩
   ·rw[List.mapM_cons,Sem.run_bind,hv];simp only[Result.andThen_ok];rw[Sem.run_bind,g];rfl
   ·cases i with
    |zero=>simp at m;subst m;simpa using O
    |succ i=>simp at m;simpa using e i d m
 obtain⟨vs,g,hl,e⟩:=key _ _ G;have q:(results fn a.tmps).run P w= .ok (if h:vs.toArray.size=1 then vs.toArray[0]else .tuple vs.toArray) w:=by
  unfold results;rw[Sem.run_bind,Array.mapM_eq_mapM_toList];simp only[Functor.map];rw[Sem.run_bind'];exact congrArg (fun r:Result (List Value)=>(r.andThen fun a w'=>Sem.run P ((Sem.pure ∘ List.toArray) a) w').andThen fun a w'=>Sem.run P (pure (if h:a.size=1 then a[0]else Value.tuple a)) w') g
 refine⟨_,q,?_⟩
 match ds,vs,hl,hr,e with
 | [d],[v],_,hr,e=>simp only at hr;subst hr;simpa using e 0 d rfl
 | [],[],_,hr,e=>simp only at hr;subst hr;exact .tuple _ _ rfl (by simp)
 |d1::X::ds,v1::v2::vs,hl,hr,e=>
  simp only at hr;subst hr;rw[dif_neg (by simp)];exact .tuple _ _ (by simpa using hl) (fun i d m=>by simpa using e i d m)
theorem A8M{f:Nat}(Z:List (Nat×Rc)){fn:Func}{c:Code}{args:List D}{H:Heap}{Q:D→Heap→Prop}(hm:P.follows .mixedOrders=true)(C:P.funcs[f]? =some fn)(hb:fn.body=some c)(o:A1l P f=true)(hn:args.length≤fn.ntmps)
  (p:N4 P Z fn.ntmps c=true) (h:wp P Z c (A8L P fn.results.toList Q) (V5 0 args) H):ACalls P f args H Q:=by
 refine⟨o,fun w vs hl G hs=>calls_of_wp C hb ?_⟩;have hst:St fn.ntmps w H (V5 0 args) H {tmps:=vs++Array.replicate (fn.ntmps-vs.size) undef,defers:=[]} w:=by
  refine⟨by simp;omega,rfl,fun i=>?_,hs,D16 _ _,D15 _ _⟩;rw[y4,if_pos (D0t _),Nat.sub_zero];cases z:args[i]? with
  |none=>exact .undef _
  |some d=>
   have I:=(D0i.1 z).1;have:({tmps:=vs++Array.replicate (fn.ntmps-vs.size) undef,defers:=[]}:Act).eval (.tmp i)=vs.getD i undef:=by
    simp only[Act.eval];exact G1 (by omega)
   rw[this];exact G i d z
 have fin: ∀(x:AX) (E:Env) (H':Heap) (a:Act) (w':World),(x= .normal∨x= .ret)→St fn.ntmps w H E H' a w'→A8L P fn.results.toList Q x E H'→
   a.defers= []∧∃v,(results fn a.tmps).run P w'= .ok v w'∧∃A,Ending.returned v= .returned A∧Post H w Q A w':=by
  intro x E H' a w' hx g hq;have q: ∃r,A2u P fn.results.toList E H'=some r∧∃j m,Shift H' r j m∧Q m j:=by rcases hx with rfl|rfl<;>exact hq
  obtain⟨r,hr,j,m,u,J⟩:=q;obtain⟨v,hv,y⟩:=A2M (P:=P) g hr;obtain⟨L,M,O⟩:=u _ _ y g.sat;exact⟨g.defers,v,hv,v,rfl,m,j,L,M,g.ext,fun k hk hn=>O k (g.frm k hk hn),J⟩
 refine Go.wp_mono (y3 hm c _ _ _ _ _ p h hst) fun e a w' he=>?_;cases e with
 |normal=>obtain⟨E,H',g,hq⟩:=he;exact fin .normal E H' a w' (.inl rfl) g hq
 |ret=>obtain⟨E,H',g,hq⟩:=he;exact fin .ret E H' a w' (.inr rfl) g hq
 |exit id=>obtain⟨E,H',g,hq⟩:=he;exact hq.elim
 |_=>exact he.elim
theorem A9{f:Nat}(Z:List (Nat×Rc)){fn:Func}{c:Code}{args:List D}{H:Heap}{Q:D→Heap→Prop}(hm:P.follows .mixedOrders=true)(g:P.funcs[f]? =some fn)(hb:fn.body=some c)
  (h:wp P Z c (A8L P fn.results.toList Q) (V5 0 args) H) (d:A1l P f=true:=by kernel_rfl) (hn:args.length≤fn.ntmps:=by exact D0Z (by kernel_rfl)) (e:N4 P Z fn.ntmps c=true:=by kernel_rfl):ACalls P f args H Q:=A8M Z hm g hb d hn e h
theorem ACalls.shift{f:Nat}{args args':List D}{H H':Heap}{Q:D→Heap→Prop}(hs: ∀w (vs:Array Value),args.length=vs.size→(∀(i:Nat) d,args[i]? =some d→R w H d (vs.getD i Go.undef))→Sat H w→
  args'.length=vs.size∧(∀(i:Nat) d,args'[i]? =some d→R w H' d (vs.getD i Go.undef))∧Sat H' w∧∀k,H.held k=false→H'.held k=false) (h:ACalls P f args' H' Q):ACalls P f args H Q:=by
 refine⟨h.1,fun w vs h1 m o=>?_⟩;obtain⟨p,q,r,j⟩:=hs w vs h1 m o;refine(h.2 w vs p q r).mono fun e w' ⟨v,he,d,u,x,y,g,z,A⟩=>⟨v,he,d,u,x,y,⟨g.os,g.tape,g.output,g.size,fun k hk hn=>g.block k hk (j k hn),g.shape⟩,fun k hk hn=>z k hk (j k hn),A⟩
theorem E9(H:Heap)(b:Nat):(H.del b).Le H:=fun k o h=>by
 unfold Heap.del at h;split at h
 ·cases h
 ·exact h
theorem A53{w:World}{H:Heap}{b sz lo n:Nat}{es:List (List D)}{v:Value}(hr:R w H (.vec b sz lo n) v)(hs:Sat H w)(hb:H b=some (.vec sz es))(hn:lo+n≤es.length):
  R w (H.del b) (.sl sz ((es.drop lo).take n)) v:=by
 have p:=hs.lt hb;obtain⟨c,T,x,y,h1,G,I,o⟩:=A2G (hs b _ hb);cases hr with
 |vec0 b sz lo off=>rw[List.take_zero];exact .sl0 _ _ _
 |vec b sz lo n cap T m z A hsz q=>
 have hlen:((es.drop lo).take n).length=n:=by simp;omega
 have g: ∀(i:Nat) (e:List D),((es.drop lo).take n)[i]? =some e→i<n∧es[lo+i]? =some e:=fun i e he=>by
  have h:=(D0i.1 he).1;rw[hlen]at h;rw[List.getElem?_take_of_lt h,List.getElem?_drop]at he;exact⟨h,he⟩
 have u:=R.sl (w:=w) (H:=H.del b) sz ((es.drop lo).take n) b (lo*sz) cap (fun i j=>c.getD ((lo+i)*sz+j) Go.undef) p (H8 (by simp[Heap.del]))
  (fun i e he=>o.each _ _ (g i e he).2) (by rw[hlen];exact q) (fun i j h J=>?_) (fun i e j d he r=>o.one _ _ _ _ (g i e he).2 r)
  (fun i e j d he r=>(o.rel _ _ _ _ (g i e he).2 r).less (E9 H b))
 ·rw[hlen]at u;exact u
 ·rw[hlen]at h;have e1:lo*sz+i*sz+j=(lo+i)*sz+j:=by rw[Nat.add_mul]
  rw[e1,T1 h1];have h5:(lo+i+1)*sz≤es.length*sz:=D1E _ (by omega);rw[Nat.add_mul (lo+i),Nat.one_mul]at h5;have L:=o.le;have C:(lo+i)*sz+j<c.size:=by omega
  simp[C]
inductive Fz(b sz:Nat)(es:List (List D)):D→D→Prop
 |same (d:D):Fz b sz es d d
 |nil (sz':Nat):Fz b sz es .nilsl (.sl sz' [])
 |vec (lo n:Nat) (h:lo+n≤es.length):Fz b sz es (.vec b sz lo n) (.sl sz ((es.drop lo).take n))
 |all:Fz b sz es (.vec b sz 0 es.length) (.sl sz es)
 |tuple (ds ds':List D) (hl:ds.length=ds'.length) (h: ∀(i:Nat) d d',ds[i]? =some d→ds'[i]? =some d'→Fz b sz es d d'):Fz b sz es (.tuple ds) (.tuple ds')
theorem Fz.R{w:World}{H:Heap}{b sz:Nat}{es:List (List D)}(hs:Sat H w)(hb:H b=some (.vec sz es)){d d':D}(h:Fz b sz es d d'): ∀{v:Value},R w H d v→R w (H.del b) d' v:=by
 induction h with
 |same d=>exact fun hr=>hr.less (E9 H b)
 |nil sz'=>intro v hr;cases hr;exact .sl0 _ _ _
 |vec lo n h=>exact fun hr=>A53 hr hs hb h
 |all=>intro v hr;have:=A53 hr hs hb (by omega);rwa [List.drop_zero,List.take_length]at this
 |tuple ds ds' hl h m=>
  intro v hr;obtain⟨vs,rfl,o,g⟩:=hr.tuple_inv;refine .tuple _ _ (by omega) fun i d' e=>?_;have p:=(D0i.1 e).1;have j:ds[i]? =some (ds[i]'(by omega)):=D0p _;exact m i _ _ j e (g i _ j)
theorem Fz.one{b sz:Nat}{es:List (List D)}{d d':D}(h:Fz b sz es d d')(h1:d.one=true):d'.one=true:=by
 cases h with
 |same=>exact h1
 |nil=>rfl
 |vec=>rfl
 |all=>rfl
 |tuple=>cases h1
inductive OFz(b sz:Nat)(es:List (List D)):Obj→Obj→Prop
 |same (o:Obj):OFz b sz es o o
 |box (cs cs':List D) (Z:Option TypeId) (hl:cs.length=cs'.length) (h: ∀(i:Nat) d d',cs[i]? =some d→cs'[i]? =some d'→Fz b sz es d d'):OFz b sz es (.box cs Z) (.box cs' Z)
 |vec (s:Nat) (xs xs':List (List D)) (hl:xs.length=xs'.length) (h: ∀(i:Nat) x x',xs[i]? =some x→xs'[i]? =some x'→x.length=x'.length∧∀(j:Nat) d d',x[j]? =some d→x'[j]? =some d'→Fz b sz es d d'):OFz b sz es (.vec s xs) (.vec s xs')
theorem A1t{E A:Env}{H H':Heap}{b sz:Nat}{es:List (List D)}(hb:H b=some (.vec sz es))(hE: ∀p∈A,Fz b sz es (E.get p.1) p.2)
  (C: ∀k o',H' k=some o'→k≠b∧∃o,H k=some o∧OFz b sz es o o'):A0w A H' E H:=by
 intro N w0 Hz a w hst;have hs:=hst.sat;have e: ∀k,H.held k=false→H'.held k=false:=fun k hk=>by
  cases ho:H' k with
  |none=>exact H8 ho
  |some o'=>
   obtain⟨_,o,h1,G⟩:=C k o' ho;rw[J2 h1]at hk;rw[J2 ho];cases G<;>exact hk
 have I: ∀{d d':D} {v:Value},Fz b sz es d d'→R w H d v→R w H' d' v:=fun u hr=>(u.R hs hb hr).mono (D16 _ _) fun k _ hk=>by
  by_cases x:k=b
  ·subst x;cases ho:H' k with
   |none=>exact H8 ho
   |some o'=>exact absurd rfl (C k o' ho).1
  ·refine e k ?_;rw[←A0N (H:=H) (H':=H.del b) (k:=k) (by unfold Heap.del;rw[if_neg x])];exact hk
 refine⟨hst.size,hst.defers,fun i=>?_,fun k o' ho=>?_,hst.ext,fun k hk hn=>e k (hst.frm k hk hn)⟩
 ·have key: ∀(L:Env),(∀p∈L,Fz b sz es (E.get p.1) p.2)→R w H' (L.get i) (a.eval (.tmp i)):=by
   intro L
   induction L with
   |nil=>intro _;exact .undef _
   |cons p L ih=>
    intro W;obtain⟨j,d⟩:=p;simp only[Env.get];by_cases y:j=i
    ·subst y;rw[if_pos rfl];exact I (W (j,d) (by simp)) (hst.env j)
    ·rw[if_neg y];exact ih (fun p hp=>W p (by simp[hp]))
  exact key A hE
 ·obtain⟨_,o,h1,G⟩:=C k o' ho;have q:=hs k o h1;cases G with
  |same=>exact q.mono (D16 H w) (fun k _ hk=>e k hk) rfl
  |box cs cs' Z hl u=>
   obtain⟨c,T,lo,J,M,O,X,z,U⟩:=q;refine⟨c,T,lo,J,M,O,by omega,fun j d' g=>?_,U⟩;have y:=(D0i.1 g).1;have r:cs[j]? =some (cs[j]'(by omega)):=D0p _;have m:=u j _ _ r g;exact⟨m.one (z j _ r).1,I m (z j _ r).2⟩
  |vec s xs xs' hl u=>
   obtain⟨c,T,lo,J,M,O,X,z,U,Y⟩:=q;refine⟨c,T,lo,J,M,O,X,by rw[←hl];exact z,fun i x' h=>?_,fun i x' j d' h g=>?_⟩
   ·have V:=(D0i.1 h).1;have hx:xs[i]? =some (xs[i]'(by omega)):=D0p _;rw[←(u i _ _ hx h).1];exact U i _ hx
   ·have V:=(D0i.1 h).1;have hx:xs[i]? =some (xs[i]'(by omega)):=D0p _;obtain⟨hlen,m⟩:=u i _ _ hx h;have y:=(D0i.1 g).1;have r:(xs[i]'(by omega))[j]? =some ((xs[i]'(by omega))[j]'(by omega)):=D0p _;have hz:=m j _ _ r g;exact⟨hz.one (Y i _ j _ hx r).1,I hz (Y i _ j _ hx r).2⟩
theorem Shift.freeze{H:Heap}{b sz:Nat}{es:List (List D)}(hb:H b=some (.vec sz es)){d d':D}(h:Fz b sz es d d'):Shift H d (H.del b) d':=fun w v hr hs=>
 ⟨h.R hs hb hr,hs.less (E9 H b),fun _ hn=>(E9 H b).held hn⟩
theorem ACalls.freeze{f:Nat}{args args':List D}{H:Heap}{Q:D→Heap→Prop}{b sz:Nat}{es:List (List D)}(hb:H b=some (.vec sz es))(hl:args.length=args'.length)(m: ∀(i:Nat) d d',args[i]? =some d→args'[i]? =some d'→Fz b sz es d d')
  (h:ACalls P f args' (H.del b) Q):ACalls P f args H Q:=
 h.shift fun w vs h1 o g=>⟨by omega,fun i d' e=>by
  have p:=(D0i.1 e).1;have j:args[i]? =some (args[i]'(by omega)):=D0p _;exact(m i _ _ j e).R g hb (o i _ j),g.less (E9 H b),fun _ hn=>(E9 H b).held hn⟩
theorem R.nil_sl{w:World}{H:Heap}{v:Value}(sz:Nat)(h:R w H .nilsl v):R w H (.sl sz []) v:=by cases h;exact .sl0 _ _ _
theorem B1K{f:Nat}{H:Heap}{Q:D→Heap→Prop}(sz:Nat)(h:ACalls P f [.sl sz []] H Q):ACalls P f [.nilsl] H Q:=
 ACalls.shift (args':=[.sl sz []]) (fun w vs h1 g j=>⟨h1,fun i d e=>by
  match i,e with
  |0,e=>simp at e;subst e;exact(g 0 _ rfl).nil_sl sz
  |i+1,e=>simp at e,j,fun _ hn=>hn⟩) h
theorem A0a{f:Nat}{a:D}{H:Heap}{Q:D→Heap→Prop}(sz:Nat)(h:ACalls P f [a,.sl sz []] H Q):ACalls P f [a,.nilsl] H Q:=
 ACalls.shift (args':=[a,.sl sz []]) (fun w vs h1 g j=>⟨h1,fun i d e=>by
  match i,e with
  |0,e=>simp at e;subst e;exact g 0 _ rfl
  |1,e=>simp at e;subst e;exact(g 1 _ rfl).nil_sl sz
  |i+2,e=>simp at e,j,fun _ hn=>hn⟩) h
end
def B(s:ByteArray):List UInt8:=s.data.toList
@[simp] theorem T9(s:ByteArray):(B s).length=s.size:=by simp[B]
theorem X9{s t:ByteArray}(h:B s=B t):s=t:=by
 apply ByteArray.ext;unfold B at h;exact Array.toList_inj.1 h
def S(l:List UInt8):ByteArray:=⟨l.toArray⟩
@[go_sem] theorem t7(l:List UInt8):B (S l)=l:=by simp[B,S]
theorem S_B(s:ByteArray):S (B s)=s:=X9 (t7 _)
@[go_sem] theorem O6(l:List UInt8):(S l).size=l.length:=by rw[←T9,t7]
theorem C5d{l m:List UInt8}(h:S l=S m):l=m:=by rw[←t7 l,h,t7]
@[go_sem] theorem D0H(l:List UInt8):B (ByteArray.mk l.toArray)=l:=t7 l
@[go_sem] theorem y5(x y:ByteArray):B (x++y)=B x++B y:=by simp[B,ByteArray.data_append]
attribute [go_sem] T9
theorem A4G(s:ByteArray)(l h:Nat):s.extract l h=S (((B s).take h).drop l):=by
 apply X9;rw[t7];simp[B,ByteArray.data_extract,List.extract_eq_take_drop];rw[List.drop_take]
theorem A0S(l:List UInt8):B ⟨l.toArray⟩=l:=by simp[B]
def B8m(P:Program)(Z:List (Nat×Rc))(b:Code)(Q:AX→Env→Heap→Prop):AX→Env→Heap→Prop
 | .normal,E,H=>wp P Z b Q E H
 | .exit i,E,H=>Q (.exit i) E H
 | .ret,E,H=>Q .ret E H
def A8N(id:Nat)(Q:AX→Env→Heap→Prop):AX→Env→Heap→Prop
 | .normal,E,H=>Q .normal E H
 | .exit i,E,H=>if i=id then Q .normal E H else Q (.exit i) E H
 | .ret,E,H=>Q .ret E H
def A54(Q:AX→Env→Heap→Prop)(K:Env→Heap→Prop):AX→Env→Heap→Prop
 | .normal,E,H=>K E H
 | .exit i,E,H=>Q (.exit i) E H
 | .ret,E,H=>Q .ret E H
def B2m(Q:AX→Env→Heap→Prop):Env→Heap→Prop:=fun E H=>Q .normal E H
def B5Z(P:Program)(Z:List (Nat×Rc))(c:Code)(Q:AX→Env→Heap→Prop)(E:Env)(H:Heap):Prop:=B2l (fun K=>wp P Z c (A54 Q K)) E H
def opK(P:Program)(gs:List (Option Nat))(K:Env→Heap→Prop)(l:List Oper)(dst:Option Nat)(E:Env):D→Heap→Prop:=fun d H=>wpOps P gs K l (E.put dst d) H
def R5(o:Option D)(K:D→Heap→Prop)(H:Heap):Prop:=∃d,o=some d∧K d H
def A9z(o:Option Heap)(K:D→Heap→Prop):Prop:=∃H',o=some H'∧K .undef H'
def A90(P:Program)(Z:List (Nat×Rc))(c:Operand)(d:D)(x y:Code)(Q:AX→Env→Heap→Prop)(E:Env)(H:Heap):Prop:=∃b,d= .bool b∧(b=true→wp P Z x Q (E.fix c true) H)∧(b=false→wp P Z y Q (E.fix c false) H)
def A0f(P:Program)(gs:List (Option Nat))(K:Env→Heap→Prop)(l:List Oper)(dst:Option Nat)(op:Op)(s:Nat)(d:D)(want:Bool)(E:Env)(H:Heap):Prop:=
 (d= .tuple []∧wpOps P gs K l (E.put dst (.tuple [])) H)∨
 ∃b,d= .bool b∧(b=want→D0 P (Env.ev ((s,.bool want)::E)) H (opK P gs K l dst ((s,.bool want)::E)) op)∧(b= !want→wpOps P gs K l (Env.put ((s,.bool (!want))::E) dst (.tuple [])) H)
def B1k(P:Program)(gs:List (Option Nat))(K:Env→Heap→Prop)(l:List Oper)(dst:Option Nat)(op:Op)(s:Option Nat)(want:Bool)(E:Env)(H:Heap):Prop:=match s with
 |none=>wpOps P gs K l (E.put dst (.tuple [])) H
 |some s=>A0f P gs K l dst op s (E.get s) want E H
def B5a(P:Program)(f:D)(args:List D)(H:Heap)(K:D→Heap→Prop):Prop:=match f with
 | .fn (.func g) first captured=>ACalls P g (first++args++captured) H K
 |_=>False
def Fin(Q:D→Heap→Prop)(d:D)(H:Heap):Prop:=∃H' d',Shift H d H' d'∧Q d' H'
def B8n(o:Option D)(Q:D→Heap→Prop)(H:Heap):Prop:=∃r,o=some r∧Fin Q r H
theorem Fin.less{Q:D→Heap→Prop}{d:D}{H H':Heap}(hl:H'.Le H)(h:Q d H'):Fin Q d H:=⟨H',d,.less hl d,h⟩
theorem D10:type_of% @Fin.less:=@Fin.less
theorem Fin.same{Q:D→Heap→Prop}{d:D}{H:Heap}(h:Q d H):Fin Q d H:=⟨H,d,.less (D1z H) d,h⟩
theorem D13:type_of% @Fin.same:=@Fin.same
theorem Fin.freeze{Q:D→Heap→Prop}{d d':D}{H:Heap}{b sz:Nat}{es:List (List D)}(hb:H b=some (.vec sz es))(g:Fz b sz es d d')(h:Fin Q d' (H.del b)):Fin Q d H:=
 let ⟨H',e,h1,h2⟩:=h;⟨H',e,(Shift.freeze hb g).trans h1,h2⟩
theorem Fin.then{Q:D→Heap→Prop}{d:D}{H H':Heap}(hl:H'.Le H)(h:Fin Q d H'):Fin Q d H:=
 let ⟨H1,e,h1,h2⟩:=h;⟨H1,e,(Shift.less hl d).trans h1,h2⟩
theorem B2a{Q:D→Heap→Prop}{ds:List D}{H:Heap}{b sz n:Nat}{es:List (List D)}(hb:H b=some (.vec sz es))(hn:n=es.length)(h:Fin Q (.tuple (.sl sz es::ds)) (H.del b)):Fin Q (.tuple (.vec b sz 0 n::ds)) H:=by
 subst hn;refine Fin.freeze hb (.tuple _ _ (by simp) fun i d d' h1 e=>?_) h;cases i with
 |zero=>simp at h1 e;subst h1;subst e;exact .all
 |succ i=>simp at h1 e;rw[h1]at e;cases e;exact .same _
theorem Fin.nilsl{Q:D→Heap→Prop}{H:Heap}(sz:Nat)(ds:List D)(h:Fin Q (.tuple (.sl sz []::ds)) H):Fin Q (.tuple (.nilsl::ds)) H:=
 let ⟨H1,e,h1,h2⟩:=h;⟨H1,e,Shift.trans (fun w v hr hs=>⟨by
  obtain⟨vs,rfl,hl,g⟩:=hr.tuple_inv;refine .tuple _ _ (by simpa using hl) fun i d j=>?_;cases i with
  |zero=>simp at j;subst j;have:=g 0 _ rfl;generalize vs.getD 0 Go.undef=u at this;cases this;exact .sl0 _ _ _
  |succ i=>exact g (i+1) d (by simpa using j),hs,fun _ hn=>hn⟩) h1,h2⟩
theorem A91{P:Program}{t:Nat}{k:IntKind}(h:P.underlying t=some (.int k)):C8 P t= .int:=by unfold C8;rw[h]
section
variable {P:Program} {Z:List (Nat×Rc)} {Q:AX→Env→Heap→Prop} {E:Env} {H:Heap} {K:Env→Heap→Prop} {gs:List (Option Nat)} {l:List Oper} {KD:D→Heap→Prop} {ev:Operand→D} {bl:List Nat}
@[go_sem] theorem C7F:wp P Z .skip Q E H=Q .normal E H:=rfl
def A4q(P:Program)(gs:List (Option Nat))(ops:List Oper)(K:Env→Heap→Prop)(E:Env)(H:Heap):Option Rc→Prop
 |none=>wpOps P gs K ops E H
 |some (.rd sx)=>∃bl,(∀k∈bl,H k≠none)∧A8K P sx bl K ops E H
 |some .par=>∃(cs:Nat→CR) (bs:Nat→Bl),B34 bs 0 ops∧wpP P gs cs bs K 0 ops E H
 |some (.ord perm)=>∃bl:List Nat,wpG P bl K (perm.map (A1s ops)) E H
 |some .rg=>∃bl,(∀k∈bl,H k≠none)∧Y6 P bl gs K ops E H
 |some .wk=>∃E0 H0,A0w E0 H0 E H∧wpOps P gs K ops E0 H0
 |some .any=>C2O P K ops.toArray E H
@[go_sem] theorem C4W(id:Nat)(l:List Oper)(d:Bool):wp P Z (.region id l.toArray d) Q E H=A4q P (l.map (·.dst)) l (B2m Q) E H (A0e id Z):=by
 show (match A0e id Z with|none=>_|some (.rd sx)=>_|some .par=>_|some (.ord perm)=>_|some .rg=>_|some .wk=>_|some .any=>_)=_;unfold A4q;cases A0e id Z with
 |none=>rfl
 |some r=>cases r<;>rfl
@[go_sem] theorem C2P(id:Nat):A0e id []=none:=rfl
@[go_sem] theorem C07(id i:Nat)(sx:Rc)(Z:List (Nat×Rc)):A0e id ((i,sx)::Z)=if id=i then some sx else A0e id Z:=rfl
@[go_sem] theorem C2Q(d:List (Option Nat))(ops:List Oper):A4q P d ops K E H none=wpOps P d K ops E H:=rfl
theorem F5{d:List (Option Nat)}{ops:List Oper}(cs:Nat→D)(bl:List Nat)(h:wpP P d (fun i=>.c (cs i)) (fun _=>⟨bl,[],[]⟩) K 0 ops E H):A4q P d ops K E H (some .par):=⟨_,_,A2s bl _ _,h⟩
theorem B2n{d:List (Option Nat)}{ops:List Oper}(cs:Nat→CR)(bl:List Nat)(h:wpP P d cs (fun _=>⟨bl,[],[]⟩) K 0 ops E H):A4q P d ops K E H (some .par):=⟨cs,_,A2s bl _ _,h⟩
theorem C2R{d:List (Option Nat)}{ops:List Oper}{perm:List Nat}(bl:List Nat)(h:wpG P bl K (perm.map (A1s ops)) E H):A4q P d ops K E H (some (.ord perm)):=⟨bl,h⟩
def gK(P:Program)(bl:List Nat)(K:Env→Heap→Prop)(l:List (Option Oper))(dst:Option Nat)(E:Env)(H:Heap):D→Heap→Prop:=fun d H'=>(l= []∨∀k∈bl,H' k=H k)∧wpG P bl K l (E.put dst d) H'
@[go_sem] theorem C7G(bl:List Nat)(K:Env→Heap→Prop)(dst:Option Nat)(E:Env)(H H':Heap)(d:D):gK P bl K [] dst E H d H'=wpG P bl K [] (E.put dst d) H':=propext ⟨fun h=>h.2,fun h=>⟨.inl rfl,h⟩⟩
@[go_sem] theorem C8B(bl:List Nat)(K:Env→Heap→Prop)(o:Option Oper)(l:List (Option Oper))(dst:Option Nat)(E:Env)(H H':Heap)(d:D):gK P bl K (o::l) dst E H d H'=((∀k∈bl,H' k=H k)∧wpG P bl K (o::l) (E.put dst d) H'):=propext ⟨fun h=>⟨h.1.resolve_left (by simp),h.2⟩,fun h=>⟨.inr h.1,h.2⟩⟩
@[go_sem] theorem C9W(bl:List Nat):wpG P bl K [] E H=K E H:=rfl
@[go_sem] theorem C8C(bl:List Nat)(l:List (Option Oper))(dst:Option Nat)(t:Nat)(x:Operand)(ty:Nat)(pos:String)(after:Array Edge)(d:Option (Nat×Bool)):
  wpG P bl K (some ⟨dst,.load t x,ty,pos,after,d⟩::l) E H=((∀b∈rdB (E.ev x),b∈bl)∧D0 P E.ev H (gK P bl K l dst E H) (.load t x)):=by
 show ((I2 P (.load t x)= .load→_)∧_)=_;simp only[I2,true_implies,B5U];rfl
def B2o:Op→Bool
 | .load .. =>false
 |_=>true
theorem B5b{op:Op}(h:I2 P op= .load):B2o op=false:=by
 cases op
 case load=>rfl
 case convert s t x=>simp only[I2]at h;split at h<;>cases h
 case call cc=>
  obtain⟨c,d,e⟩:=cc;cases c with
  |builtin b=>
   cases b<;>simp only[I2]at h<;>first|cases h|(split at h<;>cases h)
  |_=>simp[I2]at h
 all_goals (simp[I2]at h)
theorem C8D(bl:List Nat)(l:List (Option Oper))(dst:Option Nat)(op:Op)(ty:Nat)(pos:String)(after:Array Edge)(d:Option (Nat×Bool))(h:B2o op=true):
  wpG P bl K (some ⟨dst,op,ty,pos,after,d⟩::l) E H=D0 P E.ev H (gK P bl K l dst E H) op:=by
 have hc:I2 P op≠ .load:=fun g=>by rw[B5b g]at h;cases h
 show ((I2 P op= .load→_)∧_)=_;simp only[hc,false_implies,true_and];rfl
@[go_sem] theorem C7H(t:Nat)(a x:Operand)(bl:List Nat)(l:List (Option Oper))(dst:Option Nat)(ty:Nat)(pos:String)(after:Array Edge)(d:Option (Nat×Bool)):wpG P bl K (some ⟨dst,.store t a x,ty,pos,after,d⟩::l) E H=D0 P E.ev H (gK P bl K l dst E H) (.store t a x):=C8D _ _ _ _ _ _ _ _ rfl
@[go_sem] theorem C4X(o:Oper)(l:List Oper):A1s (o::l) 0=some o:=rfl
@[go_sem] theorem C4Y(o:Oper)(l:List Oper)(i:Nat):A1s (o::l) (i+1)=A1s l i:=rfl
@[go_sem] theorem C8E(a b:Code):wp P Z (.seq a b) Q E H=wp P Z a (B8m P Z b Q) E H:=by
 show wp P Z a _ E H=wp P Z a _ E H
 congr 1;funext x;cases x<;>rfl
@[go_sem] theorem C7I(c:Operand)(x y:Code):wp P Z (.cond c x y) Q E H=A90 P Z c (E.ev c) x y Q E H:=rfl
@[go_sem] theorem C5e(id:Nat)(c:Code):wp P Z (.block id c) Q E H=wp P Z c (A8N id Q) E H:=by
 show wp P Z c _ E H=wp P Z c _ E H
 congr 1;funext x;cases x<;>rfl
@[go_sem] theorem C7J(c:Code):wp P Z (.loop c) Q E H=B5Z P Z c Q E H:=by
 show B2l _ E H=B2l _ E H
 congr 1;funext K;congr 1;funext x;cases x<;>rfl
@[go_sem] theorem C7K(id:Nat):wp P Z (.exit id) Q E H=Q (.exit id) E H:=rfl
@[go_sem] theorem C8F:wp P Z .ret Q E H=Q .ret E H:=rfl
@[go_sem] theorem C5f(c:Code):wp P Z (.scope c) Q E H=wp P Z c Q E H:=rfl
@[go_sem] theorem C5g(l:Nat):wp P Z (.label l) Q E H=Q .normal E H:=rfl
@[go_sem] theorem C08(b:Code):B8m P Z b Q .normal E H=wp P Z b Q E H:=rfl
@[go_sem] theorem C4Z(b:Code)(i:Nat):B8m P Z b Q (.exit i) E H=Q (.exit i) E H:=rfl
@[go_sem] theorem C5h(b:Code):B8m P Z b Q .ret E H=Q .ret E H:=rfl
@[go_sem] theorem B8I(i:Nat):A8N i Q .normal E H=Q .normal E H:=rfl
@[go_sem] theorem C09(i j:Nat):A8N i Q (.exit j) E H=if j=i then Q .normal E H else Q (.exit j) E H:=rfl
@[go_sem] theorem C2S(i:Nat):A8N i Q .ret E H=Q .ret E H:=rfl
@[go_sem] theorem B8o:A54 Q K .normal E H=K E H:=rfl
@[go_sem] theorem C2T(j:Nat):A54 Q K (.exit j) E H=Q (.exit j) E H:=rfl
@[go_sem] theorem C4a:A54 Q K .ret E H=Q .ret E H:=rfl
@[go_sem] theorem C1A:B2m Q E H=Q .normal E H:=rfl
theorem A2v(c:Operand)(b:Bool)(x y:Code):A90 P Z c (.bool b) x y Q E H=((b=true→wp P Z x Q (E.fix c true) H)∧(b=false→wp P Z y Q (E.fix c false) H)):=by
 unfold A90;simp only[D.bool.injEq,exists_eq_left']
attribute [go_sem low] A2v
@[go_sem high] theorem C2U(c:Operand)(x y:Code):A90 P Z c (.bool true) x y Q E H=wp P Z x Q (E.fix c true) H:=by rw[A2v];simp
@[go_sem high] theorem C1B(c:Operand)(x y:Code):A90 P Z c (.bool false) x y Q E H=wp P Z y Q (E.fix c false) H:=by rw[A2v];simp
@[go_sem] theorem C7L(t:Nat)(b:Bool):Env.fix E (.tmp t) b=(t,.bool b)::E:=rfl
@[go_sem] theorem C7M:wpOps P gs K [] E H=K E H:=rfl
@[go_sem] theorem C5i(dst:Option Nat)(op:Op)(ty:Nat)(pos:String)(after:Array Edge):wpOps P gs K (⟨dst,op,ty,pos,after,none⟩::l) E H=D0 P (Env.ev E) H (opK P gs K l dst E) op:=rfl
@[go_sem] theorem C4b(dst:Option Nat)(op:Op)(ty:Nat)(pos:String)(after:Array Edge)(j:Nat)(d:Bool):
  wpOps P gs K (⟨dst,op,ty,pos,after,some (j,d)⟩::l) E H=B1k P gs K l dst op (H9 gs j) d E H:=by
 rw[wpOps];simp only[];unfold A1q B1k;cases H9 gs j<;>rfl
@[go_sem] theorem B5c(g:Option Nat)(d:List (Option Nat)):H9 (g::d) 0=g:=rfl
@[go_sem] theorem B5d(g:Option Nat)(d:List (Option Nat))(j:Nat):H9 (g::d) (j+1)=H9 d j:=by simp[H9]
@[go_sem] theorem C1C(dst:Option Nat)(op:Op)(s:Nat)(d:Bool):B1k P gs K l dst op (some s) d E H=A0f P gs K l dst op s (E.get s) d E H:=rfl
theorem i8(dst:Option Nat)(op:Op)(s:Nat)(b d:Bool):A0f P gs K l dst op s (.bool b) d E H=
  ((b=d→D0 P (Env.ev ((s,.bool d)::E)) H (opK P gs K l dst ((s,.bool d)::E)) op)∧(b= !d→wpOps P gs K l (Env.put ((s,.bool (!d))::E) dst (.tuple [])) H)):=by
 unfold A0f;simp only[D.bool.injEq,exists_eq_left',reduceCtorEq,false_and,false_or]
attribute [go_sem low] i8
@[go_sem high] theorem C1D(dst:Option Nat)(op:Op)(s:Nat)(d:Bool):A0f P gs K l dst op s (.tuple []) d E H=wpOps P gs K l (E.put dst (.tuple [])) H:=by
 unfold A0f;simp
@[go_sem high] theorem C4c(dst:Option Nat)(op:Op)(s:Nat):A0f P gs K l dst op s (.bool true) true E H=D0 P (Env.ev ((s,.bool true)::E)) H (opK P gs K l dst ((s,.bool true)::E)) op:=by rw[i8];simp
@[go_sem high] theorem C4d(dst:Option Nat)(op:Op)(s:Nat):A0f P gs K l dst op s (.bool false) false E H=D0 P (Env.ev ((s,.bool false)::E)) H (opK P gs K l dst ((s,.bool false)::E)) op:=by rw[i8];simp
@[go_sem high] theorem C4e(dst:Option Nat)(op:Op)(s:Nat):A0f P gs K l dst op s (.bool true) false E H=wpOps P gs K l (Env.put ((s,.bool true)::E) dst (.tuple [])) H:=by rw[i8];simp
@[go_sem high] theorem C4f(dst:Option Nat)(op:Op)(s:Nat):A0f P gs K l dst op s (.bool false) true E H=wpOps P gs K l (Env.put ((s,.bool false)::E) dst (.tuple [])) H:=by rw[i8];simp
@[go_sem] theorem C7N(dst:Option Nat)(d:D):opK P gs K l dst E d H=wpOps P gs K l (Env.put E dst d) H:=rfl
def C5j(P:Program)(bl:List Nat)(gs:List (Option Nat))(K:Env→Heap→Prop)(l:List Oper)(dst:Option Nat)(E:Env):D→Heap→Prop:=fun d H=>Y6 P bl gs K l (E.put dst d) H
def B5e(P:Program)(bl:List Nat)(gs:List (Option Nat))(K:Env→Heap→Prop)(l:List Oper)(dst:Option Nat)(op:Op)(s:Nat)(d:D)(want:Bool)(E:Env)(H:Heap):Prop:=
 (d= .tuple []∧Y6 P bl gs K l (E.put dst (.tuple [])) H)∨
 ∃b,d= .bool b∧(b=want→A5m P bl (Env.ev ((s,.bool want)::E)) H (C5j P bl gs K l dst ((s,.bool want)::E)) op)∧(b= !want→Y6 P bl gs K l (Env.put ((s,.bool (!want))::E) dst (.tuple [])) H)
theorem A92(dst:Option Nat)(op:Op)(s:Nat)(b d:Bool):B5e P bl gs K l dst op s (.bool b) d E H=
  ((b=d→A5m P bl (Env.ev ((s,.bool d)::E)) H (C5j P bl gs K l dst ((s,.bool d)::E)) op)∧(b= !d→Y6 P bl gs K l (Env.put ((s,.bool (!d))::E) dst (.tuple [])) H)):=by
 unfold B5e;apply propext;constructor
 ·rintro(⟨h,_⟩|⟨e,h,h1⟩)
  ·cases h
  ·cases h;exact h1
 ·exact fun h=>.inr ⟨b,rfl,h⟩
attribute [go_sem low] A92
def roH(H:Heap):Heap:=fun k=>match H k with
 |some (.ro cs)=>some (.ro cs)
 |_=>none
theorem A8O{H:Heap}{k:Nat}{cs:List D}(h:H k=some (.ro cs)):roH H k=some (.ro cs):=by unfold roH;rw[h]
theorem A8P(H:Heap):(roH H).Le H:=fun k o h=>by
 unfold roH at h;split at h
 ·rename_i cs e;cases h;exact e
 ·cases h
theorem A3R(H:Heap)(k:Nat):(roH H).held k=false:=by
 cases h:roH H k with
 |none=>exact H8 h
 |some o=>
  have d:=h;unfold roH at d;split at d
  ·cases d;rw[J2 h];rfl
  ·cases d
theorem C2V(H:Heap):H.sub (roH H)=H:=by
 funext k;unfold Heap.sub;rw[A3R];simp
def C8G(H:Heap)(b:Nat):Heap:=fun k=>if k=b then H k else roH H k
theorem B8p(H:Heap)(b:Nat):C8G H b b=H b:=if_pos rfl
@[go_sem] theorem A4H(d:D):R5 (some d) KD H=KD d H:=by simp[R5]
@[go_sem] theorem C5k(c:Prop) [Decidable c] (a:Option D):R5 (if c then a else none) KD H=(c∧R5 a KD H):=by
 by_cases h:c<;>simp[h,R5]
@[go_sem] theorem C4g(H':Heap):A9z (some H') KD=KD .undef H':=by simp[A9z]
@[go_sem] theorem C5l(c:Prop) [Decidable c] (a:Option Heap):A9z (if c then a else none) KD=(c∧A9z a KD):=by
 by_cases h:c<;>simp[h,A9z]
def tt:D→Heap→Prop:=fun _ _=>True
variable {sx:Bool} {bl:List Nat}
@[go_sem] theorem C7O(i j:Nat)(d:D)(E:Env):Env.get ((i,d)::E) j=if i=j then d else Env.get E j:=rfl
@[go_sem] theorem C7P(i:Nat)(d:D):Env.put E (some i) d=(i,d)::E:=rfl
@[go_sem] theorem B8q(d:D):Env.put E none d=E:=rfl
@[go_sem] theorem C8H(t:Nat):Env.ev E (.tmp t)=Env.get E t:=rfl
@[go_sem] theorem C8I(k:IntKind)(n:Int):Env.ev E (.const (.int k n))= .int k n:=rfl
@[go_sem] theorem C7Q(b:Bool):Env.ev E (.const (.bool b))= .bool b:=rfl
@[go_sem] theorem C8J(s:ByteArray):Env.ev E (.const (.string s))= .str s:=rfl
@[go_sem] theorem C5m:Env.ev E (.const (.slice none 0 0))= .nilsl:=rfl
@[go_sem] theorem C4h:Env.ev E (.const (.map none))= .nilmap:=rfl
@[go_sem] theorem C5n:Env.ev E (.const .nilIface)= .nilif:=rfl
@[go_sem] theorem C7R(f:Nat):Env.ev E (.func f)= .fn (.func f) [] []:=rfl
@[go_sem] theorem C8K(x:Operand):D0 P ev H KD (.move x)=KD (ev x) H:=A4H _
@[go_sem] theorem C5o(x:Operand):D0 P ev H KD (.assign x)=KD (ev x) H:=A4H _
def B2p:D→D→D→Option D
 | .bool t,a,b=>some (if t then a else b)
 |_,_,_=>none
@[go_sem high] theorem C4i(a b:D):B2p (.bool true) a b=some a:=rfl
@[go_sem high] theorem C2W(a b:D):B2p (.bool false) a b=some b:=rfl
@[go_sem] theorem C8L(c a b:Operand):D0 P ev H KD (.pick c a b)=R5 (B2p (ev c) (ev a) (ev b)) KD H:=by
 show R5 _ KD H=_;simp only[K8,B2p]
 congr 1
 cases ev c<;>rfl
def A8Q:D→Option D
 | .box b off=>some (.box b off)
 | .el b sz i off=>some (.el b sz i off)
 | .ro cs=>some (.ro cs)
 | .fn (.func f) a b=>some (.fn (.func f) a b)
 |_=>none
@[go_sem] theorem C4j(b off:Nat):A8Q (.box b off)=some (.box b off):=rfl
@[go_sem] theorem C5p(b sz i off:Nat):A8Q (.el b sz i off)=some (.el b sz i off):=rfl
@[go_sem] theorem C7S(x:Operand):D0 P ev H KD (.nilCheck x)=R5 (A8Q (ev x)) KD H:=by
 show R5 _ KD H=_;simp only[K8,A8Q];generalize ev x=d;cases d<;>rfl
@[go_sem] theorem C9X(op:BinOp)(t:Nat)(x y:Operand)(d:Nat):D0 P ev H KD (.binOp op t x y d)=R5 (A1k P op t (K6 x||K6 y) (ev x) (ev y)) KD H:=rfl
@[go_sem] theorem D0I(op:UnOp)(t:Nat)(x:Operand):D0 P ev H KD (.unOp op t x)=R5 (unD op (ev x)) KD H:=rfl
@[go_sem] theorem C7T(t:Nat)(x:Operand)(f:Nat):D0 P ev H KD (.fieldAddr t x f)=R5 (Y2 P t (ev x) f) KD H:=rfl
@[go_sem] theorem C7U(t:Nat)(x i:Operand):D0 P ev H KD (.indexAddr t x i)=R5 (Q2 P t (ev x) (ev i)) KD H:=rfl
@[go_sem] theorem C7V(t:Nat)(x i:Operand):D0 P ev H KD (.index t x i)=R5 (A5h P t (ev x) (ev i)) KD H:=rfl
@[go_sem] theorem C7W(t:Nat)(x:Operand)(lo d:Option Operand):D0 P ev H KD (.slice t x lo d none)=R5 (T4 P t (ev x) (lo.map ev) (d.map ev)) KD H:=rfl
def A55:D→Nat→Option D
 | .tuple ds,i=>ds[i]?
 |_,_=>none
@[go_sem] theorem B8J(ds:List D)(i:Nat):A55 (.tuple ds) i=ds[i]? :=rfl
@[go_sem] theorem C4k(x:Operand)(i:Nat):D0 P ev H KD (.extract x i)=R5 (A55 (ev x) i) KD H:=by
 show R5 _ KD H=_;simp only[K8,A55]
 congr 1
 cases ev x<;>rfl
@[go_sem] theorem C8M(t:Nat)(x:Operand):D0 P ev H KD (.load t x)=R5 (w9 P t (ev x) H) KD H:=rfl
@[go_sem] theorem C7X(t:Nat)(a x:Operand):D0 P ev H KD (.store t a x)=A9z (Y4 P t (ev a) (ev x) H) KD:=rfl
def B1l(z:Option (List D))(Z:Option TypeId)(H:Heap)(KD:D→Heap→Prop):Prop:=∃c,z=some c∧∀b,H b=none→KD (.box b 0) (H.set b (.box c Z))
@[go_sem] theorem C7Y(t:Nat):D0 P ev H KD (.alloc t)=B1l (F9 P t) (A1f P t) H KD:=rfl
@[go_sem] theorem C1E(c:List D)(Z:Option TypeId):B1l (some c) Z H KD= ∀b,H b=none→KD (.box b 0) (H.set b (.box c Z)):=by simp[B1l]
@[go_sem] theorem C9Y(t:Nat)(x:Operand):D0 P ev H KD (.box t x)=((ev x).cells.all D.one=true∧∀b,H b=none→KD (.box b 0) (H.set b (.box (ev x).cells))):=rfl
@[go_sem] theorem C8N(f:Operand)(args:List Operand)(d:Array Nat):D0 P ev H KD (.call ⟨.value f,args.toArray,d⟩)=B5a P (ev f) (args.map ev) H KD:=by
 show (match ev f with| .fn (.func g) first captured=>ACalls P g (first++args.toArray.toList.map ev++captured) H KD|_=>False)=_;unfold B5a;rfl
@[go_sem] theorem C5q(g:Nat)(fs d cs:List D):B5a P (.fn (.func g) fs cs) d H KD=ACalls P g (fs++d++cs) H KD:=rfl
def C5r:Option Obj→Option (List (D×D))
 |some (.map kvs)=>some kvs
 |_=>none
@[go_sem] theorem C5s(kvs:List (D×D)):C5r (some (.map kvs))=some kvs:=rfl
@[go_sem] theorem C7Z(b:Nat):X7 H (.map b)=C5r (H b):=by
 simp only[X7];generalize H b=o;cases o with
 |none=>rfl
 |some o=>cases o<;>rfl
@[go_sem] theorem C8O(kvs:List (D×D)):X7 H (.fm kvs)=some kvs:=rfl
def B5f(o:Option (List (D×D)))(KD:List (D×D)→Prop):Prop:=∃kvs,o=some kvs∧KD kvs
@[go_sem] theorem C4l(kvs:List (D×D))(K:List (D×D)→Prop):B5f (some kvs) K=K kvs:=by simp[B5f]
def B5g(bs:Q9)(P:Program)(t:Nat)(d:D)(H:Heap)(KD:D→Heap→Prop):Prop:=match bs with
 | .map=>B5f (X7 H d) fun kvs=>KD (.int .i64 kvs.length) H
 |_=>R5 (A5g P t d) KD H
@[go_sem] theorem C5t(t:Nat)(d:D):B5g .map P t d H KD=B5f (X7 H d) fun kvs=>KD (.int .i64 kvs.length) H:=rfl
@[go_sem] theorem C2X(t:Nat)(d:D):B5g .slice P t d H KD=R5 (A5g P t d) KD H:=rfl
@[go_sem] theorem C5u(t:Nat)(d:D):B5g .str P t d H KD=R5 (A5g P t d) KD H:=rfl
@[go_sem] theorem C9Z(x:Operand)(t:Nat):D0 P ev H KD (.call ⟨.builtin .len,#[x],#[t]⟩)=B5g (C8 P t) P t (ev x) H KD:=by
 unfold B5g C8;cases d:P.underlying t with
 |none=>simp[D0,I2,d,R5,K8]
 |some u=>cases u<;>simp[D0,I2,d,R5,B5f,K8]
def B8r(bs:Q9)(d:D):Option D:=match d with
 | .nilsl=>if bs= .slice then some (.int .i64 0)else none
 |_=>none
@[go_sem] theorem C5v:B8r .slice .nilsl=some (.int .i64 0):=rfl
def B2q(z:Option D)(kvs:Option (List (D×D)))(kk:KK)(k:D)(ok:Bool):Option D:=match z,kvs with
 |some z,some kvs=>(P3 kk k kvs 0).map (A2p ok z)
 |_,_=>none
@[go_sem] theorem C2Y(z k:D)(kvs:List (D×D))(d:KK)(ok:Bool):B2q (some z) (some kvs) d k ok=(P3 d k kvs 0).map (A2p ok z):=rfl
def B5h(T:Option (TypeId×TypeId×KK))(P:Program)(m k:D)(ok:Bool)(H:Heap):Option D:=match T with
 |some (_,et,kk)=>if R8 kk k=true then B2q (A5k P et) (X7 H m) kk k ok else none
 |none=>none
@[go_sem] theorem C2Z(g e:TypeId)(d:KK)(m k:D)(ok:Bool):B5h (some (g,e,d)) P m k ok H=if R8 d k=true then B2q (A5k P e) (X7 H m) d k ok else none:=rfl
@[go_sem] theorem C5w(t:Nat)(m k:Operand)(ok:Bool):D0 P ev H KD (.lookup t m k ok)=R5 (B5h (A3G P t) P (ev m) (ev k) ok H) KD H:=by
 show R5 (A1G P t (ev m) (ev k) ok H) KD H=_;unfold A1G B5h B2q;cases A3G P t with
 |none=>rfl
 |some T=>
  obtain⟨e,d,g⟩:=T;simp only[D02];cases A5k P d<;>cases X7 H (ev m)<;>simp
@[go_sem] theorem C5x(z d:D)(i:Nat):A2p true z (some (i,d))= .tuple [d,.bool true]:=rfl
@[go_sem] theorem C5y(z:D):A2p true z none= .tuple [z,.bool false]:=rfl
@[go_sem] theorem C4m(b:Q9)(s:ByteArray):R8 (.one b) (.str s)=true:=rfl
def B2r(o:Option Obj)(b:Nat)(kk:KK)(k x:D)(H:Heap):Option Heap:=match o with
 |some (.map kvs)=>(P3 kk k kvs 0).map fun r=>H.set b (.map (A5l kvs k x r))
 |_=>none
@[go_sem] theorem C4n(kvs:List (D×D))(b:Nat)(d:KK)(k x:D):B2r (some (.map kvs)) b d k x H=(P3 d k kvs 0).map fun r=>H.set b (.map (A5l kvs k x r)):=rfl
def B5i(T:Option (TypeId×TypeId×KK))(m k x:D)(H:Heap):Option Heap:=match T,m with
 |some (_,_,kk),.map b=>if R8 kk k=true then B2r (H b) b kk k x H else none
 |_,_=>none
@[go_sem] theorem C2a(e g:TypeId)(d:KK)(b:Nat)(k x:D):B5i (some (e,g,d)) (.map b) k x H=if R8 d k=true then B2r (H b) b d k x H else none:=rfl
@[go_sem] theorem C1F(t:Nat)(m k x:Operand):D0 P ev H KD (.mapUpdate t m k x)=A9z (B5i (A3G P t) (ev m) (ev k) (ev x) H) KD:=by
 show A9z (A3H P t (ev m) (ev k) (ev x) H) KD=_;unfold A3H B5i B2r;cases A3G P t with
 |none=>rfl
 |some T=>
  obtain⟨d,e,g⟩:=T;simp only[D02];cases ev m<;>try(simp;done)
  rename_i b;simp only;cases H b with
  |none=>simp
  |some o=>cases o<;>simp
@[go_sem] theorem C4o(t:Nat):D0 P ev H KD (.makeMap t none)= ∀b,H b=none→KD (.map b) (H.set b (.map [])):=rfl
@[go_sem] theorem C9a(x:Operand)(t:Nat):D0 P ev H KD (.call ⟨.builtin .cap,#[x],#[t]⟩)=R5 (B8r (C8 P t) (ev x)) KD H:=by
 have e:K8 P ev (.call ⟨.builtin .cap,#[x],#[t]⟩)=B8r (C8 P t) (ev x):=by
  simp only[K8,List.getElem?_toArray,List.getElem?_cons_zero,Option.map_some];unfold B8r;cases ev x<;>rfl
 show (∃d,K8 P ev (.call ⟨.builtin .cap,#[x],#[t]⟩)=some d∧KD d H)=_;rw[e];rfl
@[go_sem] theorem C9b(x y:Operand)(d:Array Nat):D0 P ev H KD (.call ⟨.builtin .max,#[x,y],d⟩)=R5 (A68 (ev x) (ev y)) KD H:=by
 show R5 (A69 A68 [ev x,ev y]) KD H=_;simp[A69]
@[go_sem] theorem C5z(s x:Operand)(t d:Nat):D0 P ev H KD (.call ⟨.builtin .append,#[s,x],#[t,d]⟩)=A1F P ev H KD t d s x:=rfl
def C2b(P:Program)(t:Nat)(d:D):Option D:=if C8 P t= .iface∨(P.underlying t).isNone then none else some (.iface t d)
@[go_sem] theorem C4p(t:Nat)(x:Operand):D0 P ev H KD (.makeInterface t x)=R5 (C2b P t (ev x)) KD H:=rfl
@[go_sem] theorem C8P(fn:Fn)(fs cs:List Operand):D0 P ev H KD (.makeFunc fn fs.toArray cs.toArray)=KD (.fn fn (fs.map ev) (cs.map ev)) H:=by
 show R5 _ KD H=_;simp[K8,A4H]
def A8R(P:Program)(t:Nat)(ps:List (Nat×D)):Option D:=match C8 P t with
  | .struct=>(F9 P t).bind fun z=>(L2 P t).bind fun fs=>(l5 (fun i=>(fs[i]?).map fun f=>(f.1,f.2.2)) z ps).map .agg
  | .other=>(F9 P t).bind fun z=>(B1Q P t).bind fun s=>(l5 (fun i=>some (i*s.2,s.2)) z ps).map .agg
  |_=>none
def B5j(z:Option (List D))(s:Option (Nat×Nat))(ps:List (Nat×D)):Option D:=match z,s with
 |some z,some s=>(l5 (fun i=>some (i*s.2,s.2)) z ps).map .agg
 |_,_=>none
def B1m(b:Q9)(z:Option (List D))(fs:Option (List (Nat×Bool×Nat)))(s:Option (Nat×Nat))(ps:List (Nat×D)):Option D:=match b with
 | .struct=>match z,fs with
  |some z,some fs=>(l5 (fun i=>(fs[i]?).map fun f=>(f.1,f.2.2)) z ps).map .agg
  |_,_=>none
 | .other=>B5j z s ps
 |_=>none
@[go_sem] theorem C4q(t:Nat)(ps:List (Nat×D)):A8R P t ps=B1m (C8 P t) (F9 P t) (L2 P t) (B1Q P t) ps:=by
 unfold A8R B1m B5j;cases C8 P t<;>try rfl
 ·cases F9 P t<;>try rfl
  cases L2 P t<;>rfl
 ·cases F9 P t<;>try rfl
  cases B1Q P t<;>rfl
@[go_sem] theorem C1G(z:List D)(fs:List (Nat×Bool×Nat))(s:Option (Nat×Nat))(ps:List (Nat×D)):B1m .struct (some z) (some fs) s ps=(l5 (fun i=>(fs[i]?).map fun f=>(f.1,f.2.2)) z ps).map .agg:=rfl
@[go_sem] theorem C50(d:Nat→Option (Nat×Nat))(cs:List D):l5 d cs []=some cs:=rfl
def B5k(o:Option (Nat×Nat))(pl:Nat→Option (Nat×Nat))(cs:List D)(d:D)(ps:List (Nat×D)):Option (List D):=match o with
 |none=>none
 |some (off,size)=>if d.cells.length=size∧off+size≤cs.length∧d.cells.all D.one=true then l5 pl (P2 cs off d.cells) ps else none
@[go_sem] theorem C4r(e:Nat→Option (Nat×Nat))(cs:List D)(i:Nat)(d:D)(ps:List (Nat×D)):l5 e cs ((i,d)::ps)=B5k (e i) e cs d ps:=by
 rw[l5];unfold B5k;cases e i<;>rfl
@[go_sem] theorem C2c(off size:Nat)(e:Nat→Option (Nat×Nat))(cs:List D)(d:D)(ps:List (Nat×D)):B5k (some (off,size)) e cs d ps=if d.cells.length=size∧off+size≤cs.length∧d.cells.all D.one=true then l5 e (P2 cs off d.cells) ps else none:=rfl
@[go_sem] theorem C7a(t:Nat)(ps:List (Nat×Operand)):D0 P ev H KD (.build t ps.toArray)=R5 (A8R P t (ps.map fun p=>(p.1,ev p.2))) KD H:=by
 show R5 _ KD H=_;simp only[K8,A8R];cases C8 P t<;>rfl
variable {t:Nat} {c:Bool} {k:IntKind} {a b:Int}
@[go_sem] theorem C9c:K7 P .add t c (.int k a) (.int k b)=some (.int k (k.wrap (a+b))):=by simp[K7,A3F]
@[go_sem] theorem C9d:K7 P .sub t c (.int k a) (.int k b)=some (.int k (k.wrap (a-b))):=by simp[K7,A3F]
@[go_sem] theorem C9e:K7 P .mul t c (.int k a) (.int k b)=some (.int k (k.wrap (a*b))):=by simp[K7,A3F]
@[go_sem] theorem C9f:K7 P .quo t c (.int k a) (.int k b)=if b=0 then none else some (.int k (k.wrap (a.tdiv b))):=by simp[K7,A3F]
@[go_sem] theorem C9g:K7 P .rem t c (.int k a) (.int k b)=if b=0 then none else some (.int k (a.tmod b)):=by simp[K7,A3F]
@[go_sem] theorem C9h:K7 P .eql t c (.int k a) (.int k b)=some (.bool (decide (a=b))):=by simp[K7,A3F];rfl
@[go_sem] theorem C9i:K7 P .neq t c (.int k a) (.int k b)=some (.bool (!decide (a=b))):=by simp[K7,A3F];rfl
@[go_sem] theorem C9j:K7 P .lss t c (.int k a) (.int k b)=some (.bool (decide (a<b))):=by simp[K7,A3F]
@[go_sem] theorem C9k:K7 P .leq t c (.int k a) (.int k b)=some (.bool (decide (a≤b))):=by simp[K7,A3F]
@[go_sem] theorem C9l:K7 P .gtr t c (.int k a) (.int k b)=some (.bool (decide (b<a))):=by simp[K7,A3F]
@[go_sem] theorem C9m:K7 P .geq t c (.int k a) (.int k b)=some (.bool (decide (b≤a))):=by simp[K7,A3F]
@[go_sem] theorem C8Q(x y:ByteArray):K7 P .add t c (.str x) (.str y)=if x.size+y.size≤9223372036854775807 then some (.str (x++y))else none:=rfl
@[go_sem] theorem C8R(x y:ByteArray):K7 P .eql t c (.str x) (.str y)=some (.bool (decide (B x=B y))):=by
 show some (D.bool (x.data.toList==y.data.toList))=_;unfold B;generalize x.data.toList=a;generalize y.data.toList=b;by_cases h:a=b<;>simp[h]
@[go_sem] theorem C8S(x y:ByteArray):K7 P .neq t c (.str x) (.str y)=some (.bool (!decide (B x=B y))):=by
 show some (D.bool (!(x.data.toList==y.data.toList)))=_;unfold B;generalize x.data.toList=a;generalize y.data.toList=b;by_cases h:a=b<;>simp[h]
@[go_sem] theorem C8T(x y:ByteArray):K7 P .lss t c (.str x) (.str y)=some (.bool (Op.bytesLess x.data.toList y.data.toList)):=rfl
@[go_sem] theorem C8U(x y:Bool):K7 P .eql t c (.bool x) (.bool y)=if C8 P t= .bool then some (.bool (x==y))else none:=rfl
@[go_sem] theorem C8V(x y:Bool):K7 P .neq t c (.bool x) (.bool y)=if C8 P t= .bool then some (.bool (!(x==y)))else none:=rfl
@[go_sem] theorem C8W(x:Bool):unD .not (.bool x)=some (.bool (!x)):=rfl
@[go_sem] theorem C8X:unD .neg (.int k a)=some (.int k (k.wrap (0-a))):=rfl
@[go_sem] theorem C51(d:IntKind):B2b (.int k a) (.int d b)=some (.int k (if b<a then b else a)):=rfl
@[go_sem] theorem C52(d:IntKind):A68 (.int k a) (.int d b)=some (.int k (if a<b then b else a)):=rfl
@[go_sem] theorem C8Y(op:BinOp)(y:D):A1k P op t c (.int k a) y=K7 P op t c (.int k a) y:=by cases op<;>rfl
@[go_sem] theorem C8Z(op:BinOp)(x:ByteArray)(y:D):A1k P op t c (.str x) y=K7 P op t c (.str x) y:=by cases op<;>rfl
@[go_sem] theorem C7b(op:BinOp)(x:Bool)(y:D):A1k P op t c (.bool x) y=K7 P op t c (.bool x) y:=by cases op<;>rfl
@[go_sem] theorem C53(op:BinOp)(y:D):A1k P op t c .nilif y=K7 P op t c .nilif y:=by cases op<;>rfl
@[go_sem] theorem C9n(op:BinOp)(n:Nat)(es:List (List D))(y:D):A1k P op t c (.sl n es) y=K7 P op t c (.sl n es) y:=by cases op<;>rfl
@[go_sem] theorem C54(op:BinOp)(u:Nat)(d y:D):A1k P op t c (.iface u d) y=K7 P op t c (.iface u d) y:=by cases op<;>rfl
def C2d(l:Option (List (Nat×Q9)))(xs ys:List D):Option Bool:=l.bind fun fs=>U8 fs xs ys
theorem A56{sz:Nat}{es:List (List D)}(he:es≠[])(hb:C8 P t= .slice):K7 P .eql t true (.sl sz es) .nilsl=some (.bool false):=by
 cases es with
 |nil=>exact absurd rfl he
 |cons e es=>simp[K7,A5f,A9U,hb]
@[go_sem] theorem C2e(xs d:List D):A1k P .neq t c (.agg xs) (.agg d)=(C2d (A1D P t) xs d).map fun b=>.bool (!b):=by
 show (A1D P t).bind _=_;unfold C2d;cases A1D P t<;>rfl
@[go_sem] theorem C4s(fs:List (Nat×Q9))(xs d:List D):C2d (some fs) xs d=U8 fs xs d:=rfl
@[go_sem] theorem C4t(xs d:List D):U8 [] xs d=some true:=rfl
def B5l(x y:Option D)(bs:Q9)(r:Option Bool):Option Bool:=match x,y with
 |some x,some y=>(U7 bs x y).bind fun c=>r.map (c&& ·)
 |_,_=>none
@[go_sem] theorem C2f(o:Nat)(bs:Q9)(fs:List (Nat×Q9))(xs d:List D):U8 ((o,bs)::fs) xs d=B5l xs[o]? d[o]? bs (U8 fs xs d):=rfl
@[go_sem] theorem C55(k:IntKind)(a b:Int)(r:Option Bool):B5l (some (.int k a)) (some (.int k b)) .int r=r.map (decide (a=b)&& ·):=by
 simp[B5l,U7];rfl
@[go_sem] theorem C56(a b:ByteArray)(r:Option Bool):B5l (some (.str a)) (some (.str b)) .str r=r.map (decide (B a=B b)&& ·):=by
 have:(a.data.toList==b.data.toList)=decide (B a=B b):=by
  unfold B;generalize a.data.toList=x;generalize b.data.toList=y;by_cases h:x=y<;>simp[h]
 simp only[B5l,U7,this,D02]
def elB(o:Option Obj)(sz lo n:Nat):Option (List (List D)):=match o with
 |some (.vec sz' es)=>if sz=sz'∧lo+n≤es.length then some ((es.drop lo).take n)else none
 |_=>none
@[go_sem] theorem C7c(sz' sz lo n:Nat)(es:List (List D)):elB (some (.vec sz' es)) sz lo n=if sz=sz'∧lo+n≤es.length then some ((es.drop lo).take n)else none:=rfl
@[go_sem] theorem C57(sz sz':Nat)(es:List (List D)):L6 H sz (.sl sz' es)=if sz=sz' then some es else none:=rfl
@[go_sem] theorem C4u(sz b sz' lo n:Nat):L6 H sz (.vec b sz' lo n)=if sz=sz' then elB (H b) sz lo n else none:=by
 simp only[L6];generalize H b=o;cases o with
 |none=>rfl
 |some o=>cases o<;>rfl
@[go_sem] theorem C58(es:List (List D)):A35 es []=some es:=rfl
@[go_sem] theorem C4v(es:List (List D))(i:Nat)(d:D)(ps:List (Nat×D)):A35 es ((i,d)::ps)=if i<es.length∧d.cells.length=(es.getD i []).length∧d.cells.all D.one=true then A35 (es.set i d.cells) ps else none:=rfl
def bsC(o:Option (List (List D)))(sz len:Nat)(H:Heap)(KD:D→Heap→Prop):Prop:=match o with
 |some es=>∀b,H b=none→KD (.vec b sz 0 len) (H.set b (.vec sz es))
 |none=>False
@[go_sem] theorem C59(es:List (List D))(sz len:Nat):bsC (some es) sz len H KD= ∀b,H b=none→KD (.vec b sz 0 len) (H.set b (.vec sz es)):=rfl
def bsB(z:Option (List D))(sz len:Nat)(ps:List (Nat×D))(H:Heap)(KD:D→Heap→Prop):Prop:=match z with
 |some z=>z.length=sz∧bsC (A35 (List.replicate len z) ps) sz len H KD
 |none=>False
@[go_sem] theorem C6A(z:List D)(sz len:Nat)(ps:List (Nat×D)):bsB (some z) sz len ps H KD=(z.length=sz∧bsC (A35 (List.replicate len z) ps) sz len H KD):=rfl
def bsA(P:Program)(et:Option (Nat×Nat×Nat))(len:Nat)(ps:List (Nat×D))(H:Heap)(KD:D→Heap→Prop):Prop:=match et with
 |some (e,sz,_)=>0<sz∧len*sz≤16777216∧bsB (F9 P e) sz len ps H KD
 |none=>False
@[go_sem] theorem C6B(e sz d len:Nat)(ps:List (Nat×D)):bsA P (some (e,sz,d)) len ps H KD=(0<sz∧len*sz≤16777216∧bsB (F9 P e) sz len ps H KD):=rfl
@[go_sem] theorem B8s(t len:Nat)(ps:List (Nat×Operand)):D0 P ev H KD (.buildSlice t len ps.toArray)=bsA P (G7 P t) len (ps.map fun p=>(p.1,ev p.2)) H KD:=by
 show (∃e sz d z es,G7 P t=some (e,sz,d)∧0<sz∧len*sz≤16777216∧F9 P e=some z∧z.length=sz∧A35 (List.replicate len z) (ps.map fun p=>(p.1,ev p.2))=some es∧_)=_;apply propext;constructor
 ·rintro⟨e,sz,d,z,es,h1,g,i,m,h5,o,q⟩;rw[h1];refine⟨g,i,?_⟩;rw[m];refine⟨h5,?_⟩;rw[o];exact q
 ·intro h;cases he:G7 P t with
  |none=>rw[he]at h;exact h.elim
  |some e=>
   obtain⟨e,sz,d⟩:=e;rw[he]at h;obtain⟨g,i,h⟩:=h;cases j:F9 P e with
   |none=>rw[j]at h;exact h.elim
   |some z=>
    rw[j]at h;obtain⟨h5,h⟩:=h;cases hs:A35 (List.replicate len z) (ps.map fun p=>(p.1,ev p.2))with
    |none=>rw[hs]at h;exact h.elim
    |some es=>rw[hs]at h;exact⟨e,sz,d,z,es,rfl,g,i,j,h5,hs,h⟩
def apV(o:Option Obj)(b sz n by_:Nat)(xs:List (List D))(H:Heap)(KD:D→Heap→Prop):Prop:=match o with
 |some (.vec sz' es)=>sz=sz'∧n≤es.length∧(n+xs.length)*by_≤140737488355328∧n+xs.length≤9223372036854775807∧∀b',H.del b b'=none→KD (.vec b' sz 0 (n+xs.length)) ((H.del b).set b' (.vec sz (es.take n++xs)))
 |_=>False
@[go_sem] theorem C7d(b sz sz' n d:Nat)(es xs:List (List D)):apV (some (.vec sz' es)) b sz n d xs H KD=(sz=sz'∧n≤es.length∧(n+xs.length)*d≤140737488355328∧n+xs.length≤9223372036854775807∧∀e,H.del b e=none→KD (.vec e sz 0 (n+xs.length)) ((H.del b).set e (.vec sz (es.take n++xs)))):=rfl
def apW(o:Option Obj)(b sz lo n by_:Nat)(xs:List (List D))(H:Heap)(KD:D→Heap→Prop):Prop:=match o with
 |some (.vec sz' es)=>sz=sz'∧lo+n≤es.length∧(n+xs.length)*by_≤140737488355328∧n+xs.length≤9223372036854775807∧∀b' pre,H.del b b'=none→KD (.vec b' sz pre.length (n+xs.length)) ((H.del b).set b' (.vec sz (pre++((es.drop lo).take n++xs))))
 |_=>False
def apL(lo:Nat)(o:Option Obj)(b sz n by_:Nat)(xs:List (List D))(H:Heap)(KD:D→Heap→Prop):Prop:=(lo=0∧apV o b sz n by_ xs H KD)∨apW o b sz lo n by_ xs H KD
@[go_sem] theorem C9r(o:Option Obj)(b sz n d:Nat)(xs:List (List D)):apL 0 o b sz n d xs H KD=apV o b sz n d xs H KD:=by
 refine propext ⟨fun h=>?_,fun h=>.inl ⟨rfl,h⟩⟩;rcases h with h|h
 ·exact h.2
 ·unfold apW at h;split at h
  ·obtain⟨h1,m,g,i,h5⟩:=h;exact⟨h1,by omega,g,i,fun j e=>by simpa using h5 j [] e⟩
  ·exact h.elim
def apS(s:D)(sz by_:Nat)(xs:List (List D))(H:Heap)(KD:D→Heap→Prop):Prop:=match s with
 | .nilsl=>xs.length*by_≤140737488355328∧xs.length≤9223372036854775807∧(xs= []→KD .nilsl H)∧(xs≠[]→∀b,H b=none→KD (.vec b sz 0 xs.length) (H.set b (.vec sz xs)))
 | .vec b sz' lo n=>sz'=sz∧apL lo (H b) b sz n by_ xs H KD
 |_=>False
@[go_sem] theorem C7e(sz d:Nat)(xs:List (List D)):apS .nilsl sz d xs H KD=(xs.length*d≤140737488355328∧xs.length≤9223372036854775807∧(xs= []→KD .nilsl H)∧(xs≠[]→∀b,H b=none→KD (.vec b sz 0 xs.length) (H.set b (.vec sz xs)))):=rfl
@[go_sem] theorem C7f(b sz sz' lo n d:Nat)(xs:List (List D)):apS (.vec b sz' lo n) sz d xs H KD=(sz'=sz∧apL lo (H b) b sz n d xs H KD):=rfl
def apX(o:Option (List (List D)))(s:D)(sz by_:Nat)(H:Heap)(KD:D→Heap→Prop):Prop:=match o with
 |some xs=>apS s sz by_ xs H KD
 |none=>False
@[go_sem] theorem C6C(xs:List (List D))(s:D)(sz d:Nat):apX (some xs) s sz d H KD=apS s sz d xs H KD:=rfl
def apZ(o:Option (List D))(sz:Nat):Prop:=match o with
 |some z=>z.length=sz
 |none=>False
@[go_sem] theorem C6D(z:List D)(sz:Nat):apZ (some z) sz=(z.length=sz):=rfl
def apT(b:Q9):Prop:=b= .slice∨b= .str
@[go_sem] theorem C4w:apT .slice=True:=by simp[apT]
def apK(P:Program)(et:Option (Nat×Nat×Nat))(bt:Q9)(s x:D)(H:Heap)(KD:D→Heap→Prop):Prop:=match et with
 |some (e,sz,by_)=>0<sz∧apT bt∧apZ (F9 P e) sz∧apX (L6 H sz x) s sz by_ H KD
 |none=>False
@[go_sem] theorem C6E(e sz d:Nat)(g:Q9)(s x:D):apK P (some (e,sz,d)) g s x H KD=(0<sz∧apT g∧apZ (F9 P e) sz∧apX (L6 H sz x) s sz d H KD):=rfl
@[go_sem] theorem C4x(s x:Operand)(t C:Nat):A1F P ev H KD t C s x=apK P (G7 P t) (C8 P C) (ev s) (ev x) H KD:=by
 unfold A1F;apply propext;constructor
 ·rintro⟨e,sz,j,h1,r,u,i,xs,h5,q⟩;rw[h1];refine⟨r,u,?_,?_⟩
  ·cases m:F9 P e with
   |none=>rw[m]at i;cases i
   |some z=>rw[m]at i;simpa [apZ]using i
  ·rw[h5];show apS _ _ _ _ _ _;cases hs:ev s<;>rw[hs]at q<;>try exact q.elim
   ·exact q
   ·obtain⟨p,⟨y,es,d,g⟩|⟨es,d,g⟩⟩:=q
    ·refine⟨p,.inl ⟨y,?_⟩⟩;rw[d];exact⟨rfl,g⟩
    ·refine⟨p,.inr ?_⟩;rw[d];exact⟨rfl,g⟩
 ·intro h;cases he:G7 P t with
  |none=>rw[he]at h;exact h.elim
  |some e=>
   obtain⟨e,sz,j⟩:=e;rw[he]at h;obtain⟨r,u,i,h5⟩:=h;cases hx:L6 H sz (ev x)with
   |none=>rw[hx]at h5;exact h5.elim
   |some xs=>
    rw[hx]at h5;refine⟨e,sz,j,rfl,r,u,?_,xs,hx,?_⟩
    ·cases m:F9 P e with
     |none=>rw[m]at i;exact i.elim
     |some z=>rw[m]at i;simpa [apZ]using i
    ·change apS _ _ _ _ _ _ at h5;cases hs:ev s<;>rw[hs]at h5<;>try exact h5.elim
     ·exact h5
     ·rename_i b sz' lo n;obtain⟨p,⟨y,d⟩|d⟩:=h5
      ·refine⟨p,.inl ⟨y,?_⟩⟩;cases ho:H b with
       |none=>rw[ho]at d;exact d.elim
       |some o=>
        rw[ho]at d;cases o with
        |vec A es=>obtain⟨rfl,g⟩:=d;exact⟨es,rfl,g⟩
        |_=>exact d.elim
      ·refine⟨p,.inr ?_⟩;cases ho:H b with
       |none=>rw[ho]at d;exact d.elim
       |some o=>
        rw[ho]at d;cases o with
        |vec A es=>obtain⟨rfl,g⟩:=d;exact⟨es,rfl,g⟩
        |_=>exact d.elim
def msC(z:Option (List D))(sz by_:Nat)(l c:D)(H:Heap)(KD:D→Heap→Prop):Prop:=match z,l,c with
 |some z,.int _ n,.int _ m=>z.length=sz∧0≤n∧n≤m∧by_*m≤281474976710656∧m<9223372036854775808∧∀b,H b=none→KD (.vec b sz 0 n.toNat) (H.set b (.vec sz (List.replicate n.toNat z)))
 |_,_,_=>False
@[go_sem] theorem C7g(z:List D)(sz d:Nat)(k e:IntKind)(n m:Int):msC (some z) sz d (.int k n) (.int e m) H KD=(z.length=sz∧0≤n∧n≤m∧d*m≤281474976710656∧m<9223372036854775808∧∀b,H b=none→KD (.vec b sz 0 n.toNat) (H.set b (.vec sz (List.replicate n.toNat z)))):=rfl
def msA(P:Program)(et:Option (Nat×Nat×Nat))(l c:D)(H:Heap)(KD:D→Heap→Prop):Prop:=match et with
 |some (e,sz,by_)=>0<sz∧msC (F9 P e) sz by_ l c H KD
 |none=>False
@[go_sem] theorem C6F(e sz d:Nat)(l c:D):msA P (some (e,sz,d)) l c H KD=(0<sz∧msC (F9 P e) sz d l c H KD):=rfl
@[go_sem] theorem C1I(t:Nat)(l c:Operand):D0 P ev H KD (.makeSlice t l c)=msA P (G7 P t) (ev l) (ev c) H KD:=by
 simp only[D0];apply propext;constructor
 ·rintro⟨e,sz,g,z,k,n,r,m,h1,i,d,o,h5,p,q⟩;rw[h1,h5,p];refine⟨i,?_⟩;rw[d];exact⟨o,q⟩
 ·intro h;cases he:G7 P t with
  |none=>rw[he]at h;exact h.elim
  |some e=>
   obtain⟨e,sz,g⟩:=e;rw[he]at h;obtain⟨i,d⟩:=h;cases j:F9 P e with
   |none=>rw[j]at d;exact d.elim
   |some z=>
    rw[j]at d;cases hl:ev l<;>rw[hl]at d<;>try exact d.elim
    cases hc:ev c<;>rw[hc]at d<;>try exact d.elim
    exact⟨e,sz,g,z,_,_,_,_,rfl,i,j,d.1,rfl,rfl,d.2⟩
def A6y(P:Program)(t:Nat):Option IntKind:=match P.underlying t with
 |some (.int k)=>some k
 |_=>none
def A8S(P:Program)(t:Nat):Bool:=match P.underlying t with
 |some (.slice e)=>match P.underlying e with
  |some (.int .u8)=>true
  |_=>false
 |_=>false
def cvI(d:D)(k:Option IntKind)(H:Heap)(KD:D→Heap→Prop):Prop:=match d,k with
 | .int _ n,some k=>KD (.int k (k.wrap n)) H
 |_,_=>False
@[go_sem] theorem C7h(k d:IntKind)(n:Int):cvI (.int k n) (some d) H KD=KD (.int d (d.wrap n)) H:=rfl
@[go_sem] theorem C4y(s t:Nat)(x:Operand)(h1:(A6y P s).isSome=true)(d:(A6y P t).isSome=true):D0 P ev H KD (.convert s t x)=cvI (ev x) (A6y P t) H KD:=by
 unfold A6y at h1 d;split at h1
 ·rename_i e e1;split at d
  ·rename_i g e2;have hc:I2 P (.convert s t x)= .pure:=by simp[I2,e1,e2]
   simp only[D0,hc,K8];unfold cvI A6y;rw[e2];cases hx:ev x<;>simp[B2c,e1,e2,hx,A91 e1]
  ·cases d
 ·cases h1
def C8g(d:D)(H:Heap)(KD:D→Heap→Prop):Prop:=match d with
 | .int _ n=>KD (.str (Utf8.encode n)) H
 |_=>False
@[go_sem] theorem C6G(k:IntKind)(n:Int):C8g (.int k n) H KD=KD (.str (Utf8.encode n)) H:=rfl
def C6H(d:D)(H:Heap)(KD:D→Heap→Prop):Prop:=match d with
 | .str z=>∀b,H b=none→KD (.vec b 1 0 z.size) (H.set b (.vec 1 (F0 z)))
 |_=>False
@[go_sem] theorem C6I(z:ByteArray):C6H (.str z) H KD= ∀b,H b=none→KD (.vec b 1 0 z.size) (H.set b (.vec 1 (F0 z))):=rfl
theorem A7K(s t:Nat)(x:Operand)(h1:C8 P s= .str)(d:A8S P t=true)(h:C6H (ev x) H KD):D0 P ev H KD (.convert s t x):=by
 obtain⟨e,g,he⟩: ∃e,P.underlying t=some (.slice e)∧P.underlying e=some (.int .u8):=by
  unfold A8S at d;split at d
  ·rename_i e g;split at d
   ·rename_i he;exact⟨e,g,he⟩
   ·cases d
  ·cases d
 have hs:P.underlying s=some .string:=by
  unfold C8 at h1;split at h1<;>simp_all
 have hc:I2 P (.convert s t x)= .eff:=by simp[I2,hs,g]
 simp only[D0,hc,A2h];cases hx:ev x<;>rw[hx]at h<;>try exact h.elim
 exact⟨h1,by simp[g,he],h⟩
theorem B4C(t:Nat)(x:Operand){b:Nat}(z:ByteArray)(h1:A8S P t=true)(hx:ev x= .vec b 1 0 z.size)(g:0<z.size)(hb:H b=some (.vec 1 (F0 z)))(h:KD (.sl 1 (F0 z)) (H.del b)):D0 P ev H KD (.convert t t x):=by
 obtain⟨e,d,he⟩: ∃e,P.underlying t=some (.slice e)∧P.underlying e=some (.int .u8):=by
  unfold A8S at h1;split at h1
  ·rename_i e d;split at h1
   ·rename_i he;exact⟨e,d,he⟩
   ·cases h1
  ·cases h1
 have hc:I2 P (.convert t t x)= .eff:=by simp[I2,d]
 simp only[D0,hc,A2h,hx];exact .inr ⟨trivial,by simp[d,he],b,z,rfl,g,hb,h⟩
def A8T(P:Program)(t:Nat)(x:D)(H:Heap)(KD:D→Heap→Prop):Prop:=match x with
 | .str s=>P.underlying t=some .string∧∀b,H b=none→KD (.box b 0) (H.set b (.iter s 0))
 | .fm kvs=>(A3G P t).isSome=true∧∀b,H b=none→KD (.box b 0) (H.set b (.rng kvs []))
 |_=>False
@[go_sem] theorem C7i(t:Nat)(x:Operand):D0 P ev H KD (.range t x)=A8T P t (ev x) H KD:=by
 unfold A8T;rfl
@[go_sem] theorem C4z(t:Nat)(kvs:List (D×D)):A8T P t (.fm kvs) H KD=((A3G P t).isSome=true∧∀b,H b=none→KD (.box b 0) (H.set b (.rng kvs []))):=rfl
@[go_sem] theorem C2g(t:Nat)(s:ByteArray):A8T P t (.str s) H KD=(P.underlying t=some .string∧∀b,H b=none→KD (.box b 0) (H.set b (.iter s 0))):=rfl
def B2s(o:Option Obj)(b:Nat)(H:Heap)(KD:D→Heap→Prop):Prop:=match o with
 |some (.iter s pos)=>(pos<s.size→KD (.tuple [.bool true,.int .i64 pos,.int .i32 (Utf8.decode s pos).1]) (H.set b (.iter s (pos+(Utf8.decode s pos).2))))∧(¬pos<s.size→KD (.tuple [.bool false]) H)
 |_=>False
def B5m(x:D)(H:Heap)(KD:D→Heap→Prop):Prop:=match x with
 | .box b 0=>B2s (H b) b H KD
 |_=>False
@[go_sem] theorem C8h(x:Operand):D0 P ev H KD (.next x true)=B5m (ev x) H KD:=by
 unfold B5m B2s;simp only[D0];cases ev x<;>try rfl
 rename_i b off;cases off<;>rfl
def nxR(kvs:List (D×D))(seen:List Nat)(b:Nat)(H:Heap)(KD:D→Heap→Prop):Prop:=(∀i p,kvs[i]? =some p→i∉seen→KD (.tuple [.bool true,p.1,p.2]) (H.set b (.rng kvs (seen++[i]))))∧((∀i,i<kvs.length→i∈seen)→KD (.tuple [.bool false]) H)
theorem A8U{kvs:List (D×D)}{seen:List Nat}{b:Nat}(h1: ∀i (hi:i<kvs.length),i∉seen→KD (.tuple [.bool true,kvs[i].1,kvs[i].2]) (H.set b (.rng kvs (seen++[i]))))(d:(∀i,i<kvs.length→i∈seen)→KD (.tuple [.bool false]) H):nxR kvs seen b H KD:=
 ⟨fun i p hp hn=>by obtain⟨hi,rfl⟩:=D0i.1 hp;exact h1 i hi hn,d⟩
def B2t(o:Option Obj)(b:Nat)(H:Heap)(KD:D→Heap→Prop):Prop:=match o with
 |some (.rng kvs seen)=>nxR kvs seen b H KD
 |_=>False
def B5n(x:D)(H:Heap)(KD:D→Heap→Prop):Prop:=match x with
 | .box b 0=>B2t (H b) b H KD
 |_=>False
@[go_sem] theorem C7k(x:Operand):D0 P ev H KD (.next x false)=B5n (ev x) H KD:=by
 unfold B5n B2t nxR;simp only[D0];cases ev x<;>try rfl
 rename_i b off;cases off<;>rfl
@[go_sem] theorem C40(b:Nat):B5n (.box b 0) H KD=B2t (H b) b H KD:=rfl
@[go_sem] theorem C41(kvs:List (D×D))(seen:List Nat)(b:Nat):B2t (some (.rng kvs seen)) b H KD=nxR kvs seen b H KD:=rfl
def B8t(o:Option (D×D))(H:Heap)(KD:D→Heap→Prop):Prop:=match o with
 |some p=>KD (.tuple [p.1,p.2]) H
 |none=>False
def B5o(o:Option Nat)(kvs:List (D×D))(H:Heap)(KD:D→Heap→Prop):Prop:=match o with
 |some i=>B8t kvs[i]? H KD
 |none=>False
def B8u(o:Option Obj)(H:Heap)(KD:D→Heap→Prop):Prop:=match o with
 |some (.rng kvs seen)=>B5o seen.getLast? kvs H KD
 |_=>False
def C2h(x:D)(H:Heap)(KD:D→Heap→Prop):Prop:=match x with
 | .box b 0=>B8u (H b) H KD
 |_=>False
theorem B8v(o:Option Nat)(kvs:List (D×D)):(∃i p,o=some i∧kvs[i]? =some p∧KD (.tuple [p.1,p.2]) H)=B5o o kvs H KD:=by
 unfold B5o B8t;cases o with
 |none=>simp
 |some i=>
  cases e:kvs[i]? with
  |none=>simp[e]
  |some p=>exact propext ⟨fun⟨j,q,h1,d,g⟩=>by cases h1;rw[e]at d;cases d;simp only[e];exact g,fun h=>⟨i,p,rfl,e,by simp only[e]at h;exact h⟩⟩
@[go_sem] theorem C7l(x:Operand):D0 P ev H KD (.entry x)=C2h (ev x) H KD:=by
 unfold C2h B8u;simp only[D0,B8v];cases ev x<;>try rfl
@[go_sem] theorem C6J(b:Nat):C2h (.box b 0) H KD=B8u (H b) H KD:=rfl
@[go_sem] theorem C6K(kvs:List (D×D))(seen:List Nat):B8u (some (.rng kvs seen)) H KD=B5o seen.getLast? kvs H KD:=rfl
@[go_sem] theorem C42(i:Nat)(kvs:List (D×D)):B5o (some i) kvs H KD=B8t kvs[i]? H KD:=rfl
@[go_sem] theorem C43(p:D×D):B8t (some p) H KD=KD (.tuple [p.1,p.2]) H:=rfl
@[go_sem] theorem C44(b:Nat):B5m (.box b 0) H KD=B2s (H b) b H KD:=rfl
@[go_sem] theorem C2i(s:ByteArray)(pos b:Nat):B2s (some (.iter s pos)) b H KD=((pos<s.size→KD (.tuple [.bool true,.int .i64 pos,.int .i32 (Utf8.decode s pos).1]) (H.set b (.iter s (pos+(Utf8.decode s pos).2))))∧(¬pos<s.size→KD (.tuple [.bool false]) H)):=rfl
variable {t:Nat}
@[go_sem] theorem A3(b:Nat)(o:Obj):(H.set b o) b=some o:=by simp[Heap.set]
theorem B4{b k:Nat}(o:Obj)(h:k≠b):(H.set b o) k=H k:=by simp[Heap.set,h]
@[go_sem] theorem B8w(b:Nat)(o o':Obj):(H.set b o).set b o'=H.set b o':=by
 funext k;unfold Heap.set;split<;>rfl
theorem B3{b:Nat}{o:Obj}(h:H b=some o):(H.set b o).Le H:=fun k x hx=>by
 unfold Heap.set at hx;split at hx
 ·rename_i e;rw[e,h];exact hx
 ·exact hx
theorem A6{b k:Nat}{o:Obj}:(H.set b o) k=none↔k≠b∧H k=none:=by unfold Heap.set;by_cases h:k=b<;>simp[h]
theorem D4{b k:Nat}(h:k≠b):(H.del b) k=H k:=by simp[Heap.del,h]
theorem A0{b:Nat}{o:Obj}(h:H b=none):H.Le (H.set b o):=fun k x hx=>by
 rw[B4 o (by rintro rfl;rw[h]at hx;cases hx)];exact hx
theorem A4{b k:Nat}(o:Obj)(h:k≠b):(H.set b o) k=H k:=by simp[Heap.set,h]
def B5p:Option (Bool×Nat)→Option (List D)→Option D
 |some s,some cs=>u8 s cs
 |_,_=>none
@[go_sem] theorem C6L(a:D):w9 P t a H=B5p (F7 P t) (A34 H a):=by
 unfold w9 B5p;cases F7 P t<;>simp;cases A34 H a<;>rfl
@[go_sem] theorem C2j(s:Bool×Nat)(cs:List D):B5p (some s) (some cs)=u8 s cs:=rfl
def C6M:Option Obj→Nat→Option (List D)
 |some (.box cs _),off=>some (cs.drop off)
 |_,_=>none
def C6N:Option Obj→Nat→Nat→Nat→Option (List D)
 |some (.vec sz' es),sz,i,off=>if sz=sz' then(es[i]?).map (·.drop off)else none
 |_,_,_,_=>none
@[go_sem] theorem C7m(b off:Nat):A34 H (.box b off)=C6M (H b) off:=by
 simp only[A34];generalize H b=o;cases o with
 |none=>rfl
 |some o=>cases o<;>rfl
@[go_sem] theorem C8i(b sz i off:Nat):A34 H (.el b sz i off)=C6N (H b) sz i off:=by
 simp only[A34];generalize H b=o;cases o with
 |none=>rfl
 |some o=>cases o<;>rfl
@[go_sem] theorem C8j(cs:List D):A34 H (.ro cs)=some cs:=rfl
@[go_sem] theorem C6O(cs:List D)(Z:Option TypeId)(off:Nat):C6M (some (.box cs Z)) off=some (cs.drop off):=rfl
@[go_sem] theorem C6P(sz sz' i off:Nat)(es:List (List D)):C6N (some (.vec sz' es)) sz i off=if sz=sz' then(es[i]?).map (·.drop off)else none:=rfl
@[go_sem] theorem C6Q(n:Nat)(cs:List D):u8 (false,n) cs=cs.head?:=rfl
@[go_sem] theorem C6R(n:Nat)(cs:List D):u8 (true,n) cs=if n≤cs.length then some (.agg (cs.take n))else none:=rfl
def A4I:Option (Bool×Nat)→Option Obj→Nat→Nat→List D→Heap→Option Heap
 |some (_,n),some (.box cs Z),b,off,xs,H=>if n=xs.length∧xs.all D.one=true∧off+xs.length≤cs.length then some (H.set b (.box (P2 cs off xs) Z))else none
 |_,_,_,_,_,_=>none
def y7:Option (Bool×Nat)→Option Obj→Nat→Nat→Nat→Nat→List D→Heap→Option Heap
 |some (_,n),some (.vec sz' es),b,sz,i,off,xs,H=>if n=xs.length∧xs.all D.one=true∧sz=sz'∧i<es.length∧off+xs.length≤sz then some (H.set b (.vec sz (es.set i (P2 (es.getD i []) off xs))))else none
 |_,_,_,_,_,_,_,_=>none
@[go_sem] theorem C45(b off:Nat)(x:D):Y4 P t (.box b off) x H=A4I (F7 P t) (H b) b off x.cells H:=by
 unfold Y4;cases hs:F7 P t with
 |none=>simp[A4I]
 |some s=>
  obtain⟨bb,n⟩:=s;cases hb:H b with
  |none=>simp[A4I,hb]
  |some o=>cases o with
   |box cs=>
    simp only[Option.map_some,D1A,A4I,hb];by_cases h1:n=x.cells.length<;>by_cases d:x.cells.all D.one=true<;>by_cases e:off+x.cells.length≤cs.length<;>simp only[h1,d,e]<;>simp
   |_=>simp[A4I,hb]
@[go_sem] theorem C6S(b sz i off:Nat)(x:D):Y4 P t (.el b sz i off) x H=y7 (F7 P t) (H b) b sz i off x.cells H:=by
 unfold Y4;cases hs:F7 P t with
 |none=>simp[y7]
 |some s=>
  obtain⟨bb,n⟩:=s;cases hb:H b with
  |none=>simp[y7,hb]
  |some o=>cases o with
   |box cs=>simp[y7,hb]
   |ro cs=>simp[y7,hb]
   |iter=>simp[y7,hb]
   |map=>simp[y7,hb]
   |rng=>simp[y7,hb]
   |buf=>simp[y7,hb]
   |vec sz' es=>
    simp only[Option.map_some,D1A,y7,hb];by_cases h1:n=x.cells.length<;>by_cases d:x.cells.all D.one=true<;>simp only[h1,d]<;>simp
@[go_sem] theorem C2k(bb:Bool)(n b off:Nat)(cs xs:List D)(Z:Option TypeId):A4I (some (bb,n)) (some (.box cs Z)) b off xs H=if n=xs.length∧xs.all D.one=true∧off+xs.length≤cs.length then some (H.set b (.box (P2 cs off xs) Z))else none:=rfl
@[go_sem] theorem C2l(bb:Bool)(n b sz sz' i off:Nat)(es:List (List D))(xs:List D):y7 (some (bb,n)) (some (.vec sz' es)) b sz i off xs H=if n=xs.length∧xs.all D.one=true∧sz=sz'∧i<es.length∧off+xs.length≤sz then some (H.set b (.vec sz (es.set i (P2 (es.getD i []) off xs))))else none:=rfl
@[go_sem] theorem C46(cs:List D)(i:Nat):P2 cs i []=cs:=by cases cs<;>rfl
@[go_sem] theorem C2m(cs xs:List D)(i:Nat)(x:D):P2 cs i (x::xs)=P2 (cs.set i x) (i+1) xs:=by cases cs<;>rfl
@[go_sem] theorem C47(cs:List D):(D.agg cs).cells=cs:=rfl
@[go_sem] theorem C48(k:IntKind)(n:Int):(D.int k n).cells= [.int k n]:=rfl
@[go_sem] theorem C2n(b:Bool):(D.bool b).cells= [.bool b]:=rfl
@[go_sem] theorem C49(s:ByteArray):(D.str s).cells= [.str s]:=rfl
@[go_sem] theorem C1J:D.nilsl.cells= [.nilsl]:=rfl
@[go_sem] theorem C6T(sz:Nat)(es:List (List D)):(D.sl sz es).cells= [.sl sz es]:=rfl
@[go_sem] theorem C5A(b sz lo n:Nat):(D.vec b sz lo n).cells= [.vec b sz lo n]:=rfl
@[go_sem] theorem C5B(b:Nat):(D.map b).cells= [.map b]:=rfl
attribute [go_sem] D.one
def y8(e:Option (Nat×Nat×Nat))(sz:Nat)(o:Option D):Option D:=match e with
 |some (_,sz',_)=>if sz'=sz then o else none
 |none=>none
@[go_sem] theorem C1K(e sz' d sz:Nat)(o:Option D):y8 (some (e,sz',d)) sz o=if sz'=sz then o else none:=rfl
def A2w(x:D):Option (Nat×Nat)→Option D
 |none=>none
 |some (l,h)=>match x with
  | .str s=>some (.str (s.extract l h))
  | .nilsl=>some .nilsl
  | .sl sz es=>some (.sl sz ((es.take h).drop l))
  | .vec b sz lo _=>some (if l=0 then .vec b sz lo h else .vec b sz (lo+l) (h-l))
  |_=>none
def Y7(x:D)(b:Option (Nat×Nat)):Option D:=A2w x b
theorem A1u(x:D)(c:Prop) [Decidable c] (b:Option (Nat×Nat)):Y7 x (if c then b else none)=if c then Y7 x b else none:=by split<;>rfl
theorem C2o(n:Nat)(k:IntKind)(l:Int):boundsD n (some (.int k l)) none=if 0≤l∧l≤n then some (l.toNat,n)else none:=rfl
theorem C2p(n:Nat)(k:IntKind)(h:Int):boundsD n none (some (.int k h))=if 0≤h∧h≤n then some (0,h.toNat)else none:=rfl
theorem C2q(n:Nat)(k d:IntKind)(l h:Int):boundsD n (some (.int k l)) (some (.int d h))=if 0≤l∧l≤h∧h≤n then some (l.toNat,h.toNat)else none:=rfl
theorem A4J(s:ByteArray)(lo d:Option D):T4 P t (.str s) lo d=if C8 P t= .str then Y7 (.str s) (boundsD s.size lo d)else none:=by
 simp only[T4,Y7];generalize boundsD s.size lo d=o;cases o<;>rfl
def B1n(b:Q9)(o:Option D):Option D:=if b= .str then o else none
@[go_sem] theorem C6U(o:Option D):B1n .str o=o:=rfl
@[go_sem] theorem B8x(s:ByteArray)(k:IntKind)(l:Int):T4 P t (.str s) (some (.int k l)) none=B1n (C8 P t) (if 0≤l∧l≤s.size then some (.str (S ((B s).drop l.toNat)))else none):=by
 rw[A4J];unfold B1n;have:s.extract l.toNat s.size=S ((B s).drop l.toNat):=by rw[A4G,←T9,List.take_length]
 rw[C2o,A1u];split
 ·split
  ·show some (D.str (s.extract l.toNat s.size))=_;rw[this]
  ·rfl
 ·rfl
@[go_sem] theorem B8y(s:ByteArray)(k:IntKind)(h:Int):T4 P t (.str s) none (some (.int k h))=B1n (C8 P t) (if 0≤h∧h≤s.size then some (.str (S ((B s).take h.toNat)))else none):=by
 rw[A4J];unfold B1n;have:s.extract 0 h.toNat=S ((B s).take h.toNat):=by rw[A4G,List.drop_zero]
 rw[C2p,A1u];split
 ·split
  ·show some (D.str (s.extract 0 h.toNat))=_;rw[this]
  ·rfl
 ·rfl
@[go_sem] theorem B8z(s:ByteArray)(k d:IntKind)(l h:Int):T4 P t (.str s) (some (.int k l)) (some (.int d h))=B1n (C8 P t) (if 0≤l∧l≤h∧h≤s.size then some (.str (S (((B s).take h.toNat).drop l.toNat)))else none):=by
 rw[A4J];unfold B1n;rw[C2q,A1u];split
 ·split
  ·show some (D.str (s.extract l.toNat h.toNat))=_;rw[A4G]
  ·rfl
 ·rfl
@[go_sem] theorem C5C(lo d:Option D):T4 P t .nilsl lo d=if(G7 P t).isSome then Y7 .nilsl (boundsD 0 lo d)else none:=by
 simp only[T4,Y7];generalize boundsD 0 lo d=o;cases o<;>rfl
@[go_sem] theorem C6V(sz:Nat)(es:List (List D))(lo d:Option D):T4 P t (.sl sz es) lo d=y8 (G7 P t) sz (Y7 (.sl sz es) (boundsD es.length lo d)):=by
 simp only[T4,Y7];generalize boundsD es.length lo d=o;cases G7 P t with
 |none=>simp[y8]
 |some e=>cases o<;>simp[A2w,y8]
@[go_sem] theorem C5D(b sz l n:Nat)(lo d:Option D):T4 P t (.vec b sz l n) lo d=y8 (G7 P t) sz (Y7 (.vec b sz l n) (boundsD n lo d)):=by
 simp only[T4,Y7];generalize boundsD n lo d=o;cases G7 P t with
 |none=>simp[y8]
 |some e=>cases o<;>simp[A2w,y8]
@[go_sem] theorem C1L(x:D)(l h:Nat):Y7 x (some (l,h))=A2w x (some (l,h)):=rfl
@[go_sem] theorem C2r(x:D)(c:Prop) [Decidable c] (b:Option (Nat×Nat)):Y7 x (if c then b else none)=if c then Y7 x b else none:=by split<;>rfl
@[go_sem] theorem C2s(l h:Nat):A2w .nilsl (some (l,h))=some .nilsl:=rfl
@[go_sem] theorem C5E(sz l h:Nat)(es:List (List D)):A2w (.sl sz es) (some (l,h))=some (.sl sz ((es.take h).drop l)):=rfl
@[go_sem] theorem C2t(b sz lo n l h:Nat):A2w (.vec b sz lo n) (some (l,h))=some (if l=0 then .vec b sz lo h else .vec b sz (lo+l) (h-l)):=rfl
@[go_sem] theorem C9u(n:Nat)(k:IntKind)(l:Int):boundsD n (some (.int k l)) none=if 0≤l∧l≤n then some (l.toNat,n)else none:=rfl
@[go_sem] theorem C9v(n:Nat)(k:IntKind)(h:Int):boundsD n none (some (.int k h))=if 0≤h∧h≤n then some (0,h.toNat)else none:=rfl
@[go_sem] theorem C7n(s:ByteArray):A5g P t (.str s)=if C8 P t= .str then some (.int .i64 s.size)else none:=rfl
@[go_sem] theorem C7o:A5g P t .nilsl=if C8 P t= .slice then some (.int .i64 0)else none:=rfl
@[go_sem] theorem C8k(sz:Nat)(es:List (List D)):A5g P t (.sl sz es)=if C8 P t= .slice then some (.int .i64 es.length)else none:=rfl
@[go_sem] theorem C7p(b sz lo n:Nat):A5g P t (.vec b sz lo n)=if C8 P t= .slice then some (.int .i64 n)else none:=rfl
@[go_sem] theorem C8l(s:ByteArray)(k:IntKind)(n:Int):A5h P t (.str s) (.int k n)=if C8 P t= .str∧0≤n∧n<s.size then some (.int .u8 (S9 s n))else none:=rfl
@[go_sem] theorem C9w(sz:Nat)(es:List (List D))(k:IntKind)(n:Int):Q2 P t (.sl sz es) (.int k n)=y8 (G7 P t) sz (if 0≤n∧n<es.length then some (.ro (es.getD n.toNat []))else none):=by
 unfold Q2 y8;cases G7 P t with
 |none=>simp
 |some e=>obtain⟨a,b,c⟩:=e;by_cases h:b=sz<;>simp[h]
@[go_sem] theorem C8m(b sz l m:Nat)(k:IntKind)(n:Int):Q2 P t (.vec b sz l m) (.int k n)=y8 (G7 P t) sz (if 0≤n∧n<m then some (.el b sz (l+n.toNat) 0)else none):=by
 unfold Q2 y8;cases G7 P t with
 |none=>simp
 |some e=>obtain⟨a,d,c⟩:=e;by_cases h:d=sz<;>simp[h]
def A57(f:Option (Nat×Bool×Nat))(x:D):Option D:=match f with
 |some (o,_,n)=>if n=0 then none else match x with
  | .box b off=>some (.box b (off+o))
  | .el b sz i off=>some (.el b sz i (off+o))
  | .ro cs=>some (.ro (cs.drop o))
  |_=>none
 |none=>none
def A8V(l:Option (List (Nat×Bool×Nat)))(f:Nat):Option (Nat×Bool×Nat):=match l with
 |some l=>l[f]?
 |none=>none
@[go_sem] theorem B80(l:List (Nat×Bool×Nat))(f:Nat):A8V (some l) f=l[f]? :=rfl
@[go_sem] theorem C8n(x:D)(f:Nat):Y2 P t x f=A57 (A8V (L2 P t) f) x:=by
 unfold Y2 A57 A8V;cases L2 P t<;>rfl
@[go_sem] theorem C2u(o n b off:Nat)(bb:Bool):A57 (some (o,bb,n)) (.box b off)=if n=0 then none else some (.box b (off+o)):=rfl
@[go_sem] theorem C5F(o n b sz i off:Nat)(bb:Bool):A57 (some (o,bb,n)) (.el b sz i off)=if n=0 then none else some (.el b sz i (off+o)):=rfl
@[go_sem] theorem C5G(o n:Nat)(bb:Bool)(cs:List D):A57 (some (o,bb,n)) (.ro cs)=if n=0 then none else some (.ro (cs.drop o)):=rfl
@[go_sem] theorem C6W(d:List ResultVar)(Q:D→Heap→Prop):A8L P d Q .ret E H=B8n (A2u P d E H) Q H:=rfl
@[go_sem] theorem C1M(d:List ResultVar)(Q:D→Heap→Prop):A8L P d Q .normal E H=B8n (A2u P d E H) Q H:=rfl
@[go_sem] theorem C5H(d:D)(Q:D→Heap→Prop):B8n (some d) Q H=Fin Q d H:=by simp[B8n]
@[go_sem] theorem C5I:A2u P [] E H=some (.tuple []):=rfl
@[go_sem] theorem C6X(t:Nat):A2u P [.tmp t] E H=some (E.get t):=rfl
def B1o(P:Program)(rs:List ResultVar)(E:Env)(H:Heap):Option (List D):=rs.mapM (A0R P E H)
def C1N:Option D→Option (List D)→Option (List D)
 |some d,some l=>some (d::l)
 |_,_=>none
@[go_sem] theorem C2v(d:D)(l:List D):C1N (some d) (some l)=some (d::l):=rfl
@[go_sem] theorem C6Y:B1o P [] E H=some []:=rfl
@[go_sem] theorem A7L(r:ResultVar)(d:List ResultVar):B1o P (r::d) E H=C1N (A0R P E H r) (B1o P d E H):=by
 simp only[B1o,List.mapM_cons,Option.bind_eq_bind,Option.pure_def];cases A0R P E H r<;>cases List.mapM (A0R P E H) d<;>rfl
@[go_sem] theorem C5J(r d:ResultVar)(e:List ResultVar):A2u P (r::d::e) E H=(B1o P (r::d::e) E H).map .tuple:=by
 unfold A2u;show Option.map _ (B1o P (r::d::e) E H)=_;rw[A7L,A7L];cases A0R P E H r<;>cases A0R P E H d<;>cases B1o P e E H<;>rfl
@[go_sem] theorem C5K(t:Nat):A0R P E H (.tmp t)=some (E.get t):=rfl
@[go_sem] theorem C2w(a t:Nat):A0R P E H (.cell a t)=w9 P t (E.get a) H:=rfl
@[go_sem] theorem C5L(a t:Nat):A2u P [.cell a t] E H=w9 P t (E.get a) H:=by
 simp[A2u,A0R,List.mapM_cons];cases w9 P t (E.get a) H<;>rfl
end
theorem A5{x:Int}(h1: -9223372036854775808≤x)(d:x≤9223372036854775807):IntKind.i64.wrap x=x:=IntWalk.i64_in _ (by omega)
def Sub:Env→Env→Prop
 | [],_=>True
 |(i,d)::r,E=>E.get i=d∧Sub r E
def Nx{ι :Type}(Ei: ι →Env)(Hi: ι →Heap)(Inv: ι →Prop)(μ : ι →Nat)(x: ι):Env→Heap→Prop:=fun E' H'=>∃y,Inv y∧ μ y< μ x∧A0w (Ei y) (Hi y) E' H'
theorem Sub.all: ∀{E0 E:Env},Sub E0 E→∀p∈E0,E.get p.1=p.2
 | [],_,_,_,hp=>by simp at hp
 |(i,d)::r,E,h,p,hp=>by
  rcases D00.1 hp with rfl|hp
  ·exact h.1
  ·exact Sub.all h.2 p hp
theorem C2x{P:Program}{Z:List (Nat×Rc)}{c:Code}{Q:AX→Env→Heap→Prop}{E:Env}{H:Heap}{ι :Type}(e: ι →Env)(g: ι →Heap)(d: ι →Prop)(μ : ι →Nat)(h: ι)(p:d h)(hw:A0w (e h) (g h) E H)
  (step: ∀x,d x→wp P Z c (A54 Q (Nx e g d μ x)) (e x) (g x)):B5Z P Z c Q E H:=by
 refine⟨fun n E H=>∃x,d x∧ μ x=n∧E=e x∧H=g x,⟨μ h,e h,g h,hw,h,p,rfl,rfl,rfl⟩,?_⟩;rintro n q r ⟨x,hx,rfl,rfl,rfl⟩;have i:(fun o H'=>∃m E0 H0,m< μ x∧A0w E0 H0 o H'∧∃x,d x∧ μ x=m∧E0=e x∧H0=g x)=Nx e g d μ x:=by
  funext o H'
  apply propext;constructor
  ·rintro⟨m,E0,H0,hm,hw,y,j,rfl,rfl,rfl⟩;exact⟨y,j,hm,hw⟩
  ·rintro⟨y,j,hm,hs⟩;exact⟨μ y,e y,g y,hm,hs,y,j,rfl,rfl,rfl⟩
 have:=step x hx;rw[i];exact this
theorem C2y{P:Program}{Z:List (Nat×Rc)}{c:Code}{Q:AX→Env→Heap→Prop}{E:Env}{H:Heap}{ι :Type}(e: ι →Env)(g: ι →Heap)(d: ι →Prop)(μ : ι →Nat)(h: ι)(i:d h)(j:Sub (e h) E)(m:(g h).Le H)
  (step: ∀x,d x→wp P Z c (A54 Q (Nx e g d μ x)) (e x) (g x)):B5Z P Z c Q E H:=C2x e g d μ h i (A5P j.all m) step
attribute [go_sem] Sub
theorem P9{P:Program}{K:Env→Heap→Prop}{E:Env}{H:Heap}{d:List (Option Nat)}{ops:List Oper}(E0:Env)(H0:Heap)(e:Sub E0 E)(g:H0.Le H)(h:wpOps P d K ops E0 H0):A4q P d ops K E H (some .wk):=⟨E0,H0,A5P e.all g,h⟩
theorem Y8{C T G:Prop}(h:(C→T)→G)(t:C→T):G:=h t
def A2x(E:Env):List Nat→Env
 | []=>[]
 |t::ts=>(t,E.get t)::A2x E ts
def cat:Env→Env→Env
 | [],F=>F
 |p::E,F=>p::cat E F
@[go_sem] theorem C2z(E:Env):A2x E []= []:=rfl
@[go_sem] theorem C1P(E:Env)(t:Nat)(d:List Nat):A2x E (t::d)=(t,E.get t)::A2x E d:=rfl
@[go_sem] theorem C7q(F:Env):cat [] F=F:=rfl
@[go_sem] theorem C6Z(p:Nat×D)(E F:Env):cat (p::E) F=p::cat E F:=rfl
theorem B2u: ∀{A B E:Env},Sub A E→Sub B E→Sub (cat A B) E
 | [],_,_,_,h=>h
 |_::_,_,_,h1,d=>⟨h1.1,B2u h1.2 d⟩
theorem A58(E:Env): ∀d,Sub (A2x E d) E
 | []=>trivial
 |_::d=>⟨rfl,A58 E d⟩
theorem C9{P:Program}{Z:List (Nat×Rc)}{c:Code}{Q:AX→Env→Heap→Prop}{E:Env}{H:Heap}{ι :Type}(i:List Nat)(e: ι →Env)(g: ι →Heap)(d: ι →Prop)(μ : ι →Nat)(h: ι)(j:d h)(m:Sub (e h) E)(o:(g h).Le H)
  (step: ∀Ec,Ec=A2x E i→∀x,d x→wp P Z c (A54 Q (Nx (fun x=>cat Ec (e x)) g d μ x)) (cat Ec (e x)) (g x)):B5Z P Z c Q E H:=C2y (fun x=>cat (A2x E i) (e x)) g d μ h j (B2u (A58 E i) m) o (step _ rfl)
theorem C4{ι :Type}{e: ι →Env}{g: ι →Heap}{d: ι →Prop}{μ : ι →Nat}{x: ι}{h:Env}{H':Heap}(y: ι)(h1:d y)(i: μ y< μ x)(j:Sub (e y) h)(m:(g y).Le H'):Nx e g d μ x h H':=⟨y,h1,i,A5P j.all m⟩
theorem B5q{ι :Type}{e: ι →Env}{g: ι →Heap}{d: ι →Prop}{μ : ι →Nat}{x: ι}{h:Env}{H':Heap}(y: ι)(h1:d y)(i: μ y< μ x)(j:A0w (e y) (g y) h H'):Nx e g d μ x h H':=⟨y,h1,i,j⟩
def U5(l:List UInt8)(k:Nat):Int:=((l.getD k 0).toNat:Int)
theorem B2v(s:ByteArray)(k:Nat):S9 s k=U5 (B s) k:=rfl
@[go_sem] theorem C9x(l:List UInt8)(i:Int):S9 (S l) i=U5 l i.toNat:=by
 show (((S l).data.toList.getD i.toNat 0).toNat:Int)=_;rw[show (S l).data.toList=l from t7 l];rfl
theorem A93(s:ByteArray):S9 s 0=U5 (B s) 0:=rfl
attribute [irreducible] Fin B5Z Nx
attribute [go_sem] V5 D1p List.map_nil Option.map_some Option.map_none D1k D1N D1j D1w D1x Bool.not_eq_true' Bool.not_eq_false' D0u decide_eq_false_iff_not true_and and_true List.drop_succ_cons List.drop_zero List.head?_cons List.take_succ_cons List.take_zero D0d D0f List.set_cons_zero List.set_cons_succ D1b List.all_nil Bool.and_true Bool.true_and List.getElem?_cons_zero D04 Nat.zero_add Nat.add_zero Int.toNat_natCast forall_const implies_true Option.isSome_some ne_eq not_true_eq_false not_false_eq_true D0s beq_iff_eq bne_iff_ne beq_eq_false_iff_ne Nat.le_add_left D1o beq_self_eq_true if_true if_false D06 D1G Int.toNat_natCast_add_one Option.map_map List.size_toArray D0z false_imp_iff true_imp_iff D0e D1Y D1H decide_true decide_false List.replicate_succ List.replicate_zero D07 D08 List.append_eq Nat.min_self
end Go.Av
namespace Go.Proofs
open Go.Av
@[go_sem] theorem C5Z:A6y Tryz.prog 2=some .i64:=by kernel_rfl
@[go_sem] theorem C4F:C8 Tryz.prog 3= .int:=by kernel_rfl
@[go_sem] theorem C14:F7 Tryz.prog 3=some (false,1):=by kernel_rfl
@[go_sem] theorem C5a:A6y Tryz.prog 3=some .i64:=by kernel_rfl
@[go_sem] theorem C4P:F9 Tryz.prog 3=some [.int .i64 0]:=by kernel_rfl
@[go_sem] theorem C5W:A1f Tryz.prog 3=none:=by kernel_rfl
@[go_sem] theorem C4G:C8 Tryz.prog 4= .bool:=by kernel_rfl
@[go_sem] theorem C15:F7 Tryz.prog 4=some (false,1):=by kernel_rfl
@[go_sem] theorem C4Q:F9 Tryz.prog 4=some [.bool false]:=by kernel_rfl
@[go_sem] theorem C4T:Go.Av.A5k Tryz.prog 4=some (.bool false):=by kernel_rfl
@[go_sem] theorem C5X:A1f Tryz.prog 4=none:=by kernel_rfl
@[go_sem] theorem C16:F7 Tryz.prog 5=some (false,1):=by kernel_rfl
@[go_sem] theorem C4R:F9 Tryz.prog 5=some [.int .u8 0]:=by kernel_rfl
@[go_sem] theorem C4H:C8 Tryz.prog 9= .str:=by kernel_rfl
@[go_sem] theorem C17:F7 Tryz.prog 9=some (false,1):=by kernel_rfl
@[go_sem] theorem C4S:F9 Tryz.prog 9=some [.str ⟨#[]⟩]:=by kernel_rfl
@[go_sem] theorem C0p:F7 Tryz.prog 22=some (false,1):=by kernel_rfl
@[go_sem] theorem C1h:C8 Tryz.prog 23= .slice:=by kernel_rfl
@[go_sem] theorem C0q:F7 Tryz.prog 23=some (false,1):=by kernel_rfl
@[go_sem] theorem C1v:G7 Tryz.prog 23=some (114,2,24):=by kernel_rfl
@[go_sem] theorem C1i:C8 Tryz.prog 25= .struct:=by kernel_rfl
@[go_sem] theorem C0r:F7 Tryz.prog 25=some (true,3):=by kernel_rfl
@[go_sem] theorem B8O:L2 Tryz.prog 25=some [(0,false,1),(1,false,1),(2,false,1)]:=by kernel_rfl
@[go_sem] theorem C18:F9 Tryz.prog 25=some [.nilsl,.int .i64 0,.bool false]:=by kernel_rfl
@[go_sem] theorem C4I:A1f Tryz.prog 25=none:=by kernel_rfl
@[go_sem] theorem C1j:C8 Tryz.prog 26= .slice:=by kernel_rfl
@[go_sem] theorem C0s:F7 Tryz.prog 26=some (false,1):=by kernel_rfl
@[go_sem] theorem C1w:G7 Tryz.prog 26=some (28,7,96):=by kernel_rfl
@[go_sem] theorem C19:F9 Tryz.prog 26=some [.nilsl]:=by kernel_rfl
@[go_sem] theorem C1k:C8 Tryz.prog 28= .struct:=by kernel_rfl
@[go_sem] theorem C0t:F7 Tryz.prog 28=some (true,7):=by kernel_rfl
@[go_sem] theorem B8P:L2 Tryz.prog 28=some [(0,false,1),(1,false,1),(2,true,3),(5,false,1),(6,false,1)]:=by kernel_rfl
@[go_sem] theorem C2A:F9 Tryz.prog 28=some [.int .i64 0,.int .i64 0,.nilsl,.int .i64 0,.bool false,.str ⟨#[]⟩,.nilsl]:=by kernel_rfl
@[go_sem] theorem C4J:A1f Tryz.prog 28=none:=by kernel_rfl
@[go_sem] theorem C1l:C8 Tryz.prog 31= .slice:=by kernel_rfl
@[go_sem] theorem C0u:F7 Tryz.prog 31=some (false,1):=by kernel_rfl
@[go_sem] theorem C1x:G7 Tryz.prog 31=some (9,1,16):=by kernel_rfl
@[go_sem] theorem C1m:C8 Tryz.prog 40= .slice:=by kernel_rfl
@[go_sem] theorem C0v:F7 Tryz.prog 40=some (false,1):=by kernel_rfl
@[go_sem] theorem C1y:G7 Tryz.prog 40=some (71,2,24):=by kernel_rfl
@[go_sem] theorem C1n:C8 Tryz.prog 71= .struct:=by kernel_rfl
@[go_sem] theorem C0w:F7 Tryz.prog 71=some (true,2):=by kernel_rfl
@[go_sem] theorem B8Q:L2 Tryz.prog 71=some [(0,false,1),(1,false,1)]:=by kernel_rfl
@[go_sem] theorem C5Y:A1D Tryz.prog 71=some [(0,.str),(1,.int)]:=by kernel_rfl
@[go_sem] theorem C2B:F9 Tryz.prog 71=some [.str ⟨#[]⟩,.int .i64 0]:=by kernel_rfl
@[go_sem] theorem C4K:A1f Tryz.prog 71=none:=by kernel_rfl
@[go_sem] theorem C1o:C8 Tryz.prog 72= .map:=by kernel_rfl
@[go_sem] theorem C0x:F7 Tryz.prog 72=some (false,1):=by kernel_rfl
@[go_sem] theorem C2C:F9 Tryz.prog 72=some [.nilmap]:=by kernel_rfl
@[go_sem] theorem C4O:A3G Tryz.prog 72=some (9,4,.one .str):=by kernel_rfl
@[go_sem] theorem C4L:A1f Tryz.prog 72=none:=by kernel_rfl
@[go_sem] theorem C1p:C8 Tryz.prog 91= .slice:=by kernel_rfl
@[go_sem] theorem C1z:G7 Tryz.prog 91=some (72,1,8):=by kernel_rfl
@[go_sem] theorem C1q:C8 Tryz.prog 95= .slice:=by kernel_rfl
@[go_sem] theorem C10:G7 Tryz.prog 95=some (5,1,1):=by kernel_rfl
@[go_sem] theorem C2D:F9 Tryz.prog 97=some [.nilp,.nilsl]:=by kernel_rfl
@[go_sem] theorem C4M:A1f Tryz.prog 97=some 97:=by kernel_rfl
@[go_sem] theorem C0U:C8 Tryz.prog 103= .struct:=by kernel_rfl
@[go_sem] theorem B8D:L2 Tryz.prog 103=some [(0,false,1),(1,false,1)]:=by kernel_rfl
@[go_sem] theorem C0y:F9 Tryz.prog 103=some [.str ⟨#[]⟩,.bool false]:=by kernel_rfl
@[go_sem] theorem C0V:C8 Tryz.prog 110= .slice:=by kernel_rfl
@[go_sem] theorem B8R:F7 Tryz.prog 110=some (false,1):=by kernel_rfl
@[go_sem] theorem C0h:G7 Tryz.prog 110=some (25,3,40):=by kernel_rfl
@[go_sem] theorem C0z:F9 Tryz.prog 110=some [.nilsl]:=by kernel_rfl
@[go_sem] theorem C0W:C8 Tryz.prog 114= .struct:=by kernel_rfl
@[go_sem] theorem B8S:F7 Tryz.prog 114=some (true,2):=by kernel_rfl
@[go_sem] theorem B8E:L2 Tryz.prog 114=some [(0,false,1),(1,false,1)]:=by kernel_rfl
@[go_sem] theorem C4N:A1D Tryz.prog 114=some [(0,.str),(1,.int)]:=by kernel_rfl
@[go_sem] theorem C00:F9 Tryz.prog 114=some [.str ⟨#[]⟩,.int .i64 0]:=by kernel_rfl
@[go_sem] theorem C1r:A1f Tryz.prog 114=none:=by kernel_rfl
@[go_sem] theorem C0X:C8 Tryz.prog 150= .struct:=by kernel_rfl
@[go_sem] theorem B8T:F7 Tryz.prog 150=some (true,2):=by kernel_rfl
@[go_sem] theorem B8F:L2 Tryz.prog 150=some [(0,false,1),(1,false,1)]:=by kernel_rfl
@[go_sem] theorem C01:F9 Tryz.prog 150=some [.nilsl,.nilmap]:=by kernel_rfl
@[go_sem] theorem C1s:A1f Tryz.prog 150=none:=by kernel_rfl
@[go_sem] theorem C11:A6y Tryz.prog 163=some .u64:=by kernel_rfl
@[go_sem] theorem B8U:F7 Tryz.prog 194=some (false,1):=by kernel_rfl
@[go_sem] theorem C12:A6y Tryz.prog 194=some .u32:=by kernel_rfl
@[go_sem] theorem C02:F9 Tryz.prog 194=some [.int .u32 0]:=by kernel_rfl
@[go_sem] theorem C13:A6y Tryz.prog 196=some .u64:=by kernel_rfl
@[go_sem] theorem C0Y:C8 Tryz.prog 208= .slice:=by kernel_rfl
@[go_sem] theorem C0i:G7 Tryz.prog 208=some (110,1,24):=by kernel_rfl
@[go_sem] theorem C0Z:C8 Tryz.prog 210= .slice:=by kernel_rfl
@[go_sem] theorem C0j:G7 Tryz.prog 210=some (26,1,24):=by kernel_rfl
@[go_sem] theorem C0a:C8 Tryz.prog 216= .slice:=by kernel_rfl
@[go_sem] theorem B8V:F7 Tryz.prog 216=some (false,1):=by kernel_rfl
@[go_sem] theorem C0k:G7 Tryz.prog 216=some (246,4,64):=by kernel_rfl
@[go_sem] theorem C03:F9 Tryz.prog 216=some [.nilsl]:=by kernel_rfl
@[go_sem] theorem C0b:C8 Tryz.prog 219= .slice:=by kernel_rfl
@[go_sem] theorem C0l:G7 Tryz.prog 219=some (3,1,8):=by kernel_rfl
@[go_sem] theorem C0c:C8 Tryz.prog 240= .slice:=by kernel_rfl
@[go_sem] theorem B8W:F7 Tryz.prog 240=some (false,1):=by kernel_rfl
@[go_sem] theorem C0m:G7 Tryz.prog 240=some (244,2,32):=by kernel_rfl
@[go_sem] theorem C0d:C8 Tryz.prog 242= .slice:=by kernel_rfl
@[go_sem] theorem B8X:F7 Tryz.prog 242=some (false,1):=by kernel_rfl
@[go_sem] theorem C0n:G7 Tryz.prog 242=some (194,1,4):=by kernel_rfl
@[go_sem] theorem C0e:C8 Tryz.prog 244= .struct:=by kernel_rfl
@[go_sem] theorem B8Y:F7 Tryz.prog 244=some (true,2):=by kernel_rfl
@[go_sem] theorem B8G:L2 Tryz.prog 244=some [(0,false,1),(1,false,1)]:=by kernel_rfl
@[go_sem] theorem C04:F9 Tryz.prog 244=some [.bool false,.nilsl]:=by kernel_rfl
@[go_sem] theorem C1t:A1f Tryz.prog 244=none:=by kernel_rfl
@[go_sem] theorem C0f:C8 Tryz.prog 246= .struct:=by kernel_rfl
@[go_sem] theorem B8Z:F7 Tryz.prog 246=some (true,4):=by kernel_rfl
@[go_sem] theorem B8H:L2 Tryz.prog 246=some [(0,false,1),(1,true,2),(3,false,1)]:=by kernel_rfl
@[go_sem] theorem C05:F9 Tryz.prog 246=some [.nilsl,.bool false,.nilsl,.bool false]:=by kernel_rfl
@[go_sem] theorem C1u:A1f Tryz.prog 246=none:=by kernel_rfl
@[go_sem] theorem C0g:C8 Tryz.prog 302= .slice:=by kernel_rfl
@[go_sem] theorem C0o:G7 Tryz.prog 302=some (216,1,24):=by kernel_rfl
theorem A8:Tryz.prog.follows .mixedOrders=true:=by kernel_rfl
end Go.Proofs
namespace Go.Av
section
variable {P:Program} {E:Env} {H:Heap} {K:Env→Heap→Prop} {l:List Oper} {KD:D→Heap→Prop} {ev:Operand→D} {cs:Nat→CR} {bs:Nat→Bl} {bl:Bl} {c:CR} {gs:List (Option Nat)}
def pK(P:Program)(gs:List (Option Nat))(cs:Nat→CR)(bs:Nat→Bl)(K:Env→Heap→Prop)(i:Nat)(l:List Oper)(dst:Option Nat)(E:Env):D→Heap→Prop:=fun d H=>wpP P gs cs bs K i l (E.put dst d) H
def pOp(P:Program)(c:CR)(bl:Bl)(ev:Operand→D)(H:Heap)(KD:D→Heap→Prop)(op:Op):Prop:=
 ∃e,l9 P c bl.l ev H op=some e∧A5y bl H e∧O4 P c bl.l ev H op∧∀b,e.okH b H→KD (e.val b) (e.app b H)
def A0g(P:Program)(gs:List (Option Nat))(cs:Nat→CR)(bs:Nat→Bl)(K:Env→Heap→Prop)(i:Nat)(l:List Oper)(dst:Option Nat)(op:Op)(s:Nat)(d:D)(want:Bool)(E:Env)(H:Heap):Prop:=
 (d= .tuple []∧wpP P gs cs bs K (i+1) l (E.put dst (.tuple [])) H)∨
 ∃b,d= .bool b∧(b=want→pOp P (cs i) (bs i) (Env.ev ((s,.bool want)::E)) H (pK P gs cs bs K (i+1) l dst ((s,.bool want)::E)) op)∧(b= !want→wpP P gs cs bs K (i+1) l (Env.put ((s,.bool (!want))::E) dst (.tuple [])) H)
def A8W(P:Program)(gs:List (Option Nat))(cs:Nat→CR)(bs:Nat→Bl)(K:Env→Heap→Prop)(i:Nat)(l:List Oper)(dst:Option Nat)(op:Op)(s:Option Nat)(want:Bool)(E:Env)(H:Heap):Prop:=match s with
 |none=>wpP P gs cs bs K (i+1) l (E.put dst (.tuple [])) H
 |some s=>A0g P gs cs bs K i l dst op s (E.get s) want E H
@[go_sem] theorem C9y(i:Nat):wpP P gs cs bs K i [] E H=K E H:=rfl
@[go_sem] theorem C8o(i:Nat)(dst:Option Nat)(op:Op)(ty:Nat)(pos:String)(after:Array Edge):wpP P gs cs bs K i (⟨dst,op,ty,pos,after,none⟩::l) E H=pOp P (cs i) (bs i) (Env.ev E) H (pK P gs cs bs K (i+1) l dst E) op:=rfl
@[go_sem] theorem C7r(i:Nat)(dst:Option Nat)(op:Op)(ty:Nat)(pos:String)(after:Array Edge)(j:Nat)(d:Bool):
  wpP P gs cs bs K i (⟨dst,op,ty,pos,after,some (j,d)⟩::l) E H=A8W P gs cs bs K i l dst op (H9 gs j) d E H:=by
 rw[wpP];simp only[];unfold A1q A8W;cases H9 gs j<;>rfl
@[go_sem] theorem B81(i:Nat)(dst:Option Nat)(op:Op)(s:Nat)(d:Bool):A8W P gs cs bs K i l dst op (some s) d E H=A0g P gs cs bs K i l dst op s (E.get s) d E H:=rfl
theorem j0(i:Nat)(dst:Option Nat)(op:Op)(s:Nat)(b d:Bool):A0g P gs cs bs K i l dst op s (.bool b) d E H=
  ((b=d→pOp P (cs i) (bs i) (Env.ev ((s,.bool d)::E)) H (pK P gs cs bs K (i+1) l dst ((s,.bool d)::E)) op)∧(b= !d→wpP P gs cs bs K (i+1) l (Env.put ((s,.bool (!d))::E) dst (.tuple [])) H)):=by
 unfold A0g;apply propext;constructor
 ·rintro(⟨h,_⟩|⟨e,h,h1⟩)
  ·cases h
  ·cases h;exact h1
 ·exact fun h=>.inr ⟨b,rfl,h⟩
attribute [go_sem low] j0
@[go_sem high] theorem C1Q(i:Nat)(dst:Option Nat)(op:Op)(s:Nat)(d:Bool):A0g P gs cs bs K i l dst op s (.tuple []) d E H=wpP P gs cs bs K (i+1) l (E.put dst (.tuple [])) H:=by
 unfold A0g;apply propext;constructor
 ·rintro(⟨_,h⟩|⟨e,h,_⟩)
  ·exact h
  ·cases h
 ·exact fun h=>.inl ⟨rfl,h⟩
@[go_sem high] theorem C5M(i:Nat)(dst:Option Nat)(op:Op)(s:Nat):A0g P gs cs bs K i l dst op s (.bool true) true E H=pOp P (cs i) (bs i) (Env.ev ((s,.bool true)::E)) H (pK P gs cs bs K (i+1) l dst ((s,.bool true)::E)) op:=by rw[j0];simp
@[go_sem high] theorem C5N(i:Nat)(dst:Option Nat)(op:Op)(s:Nat):A0g P gs cs bs K i l dst op s (.bool false) false E H=pOp P (cs i) (bs i) (Env.ev ((s,.bool false)::E)) H (pK P gs cs bs K (i+1) l dst ((s,.bool false)::E)) op:=by rw[j0];simp
@[go_sem high] theorem C5O(i:Nat)(dst:Option Nat)(op:Op)(s:Nat):A0g P gs cs bs K i l dst op s (.bool true) false E H=wpP P gs cs bs K (i+1) l (Env.put ((s,.bool true)::E) dst (.tuple [])) H:=by rw[j0];simp
@[go_sem high] theorem C5P(i:Nat)(dst:Option Nat)(op:Op)(s:Nat):A0g P gs cs bs K i l dst op s (.bool false) true E H=wpP P gs cs bs K (i+1) l (Env.put ((s,.bool false)::E) dst (.tuple [])) H:=by rw[j0];simp
@[go_sem] theorem C8p(i:Nat)(dst:Option Nat)(d:D):pK P gs cs bs K i l dst E d H=wpP P gs cs bs K i l (E.put dst d) H:=rfl
theorem y9{op:Op}(hc:I2 P op= .pure)(hw:D0 P ev H KD op=R5 (K8 P ev op) KD H):pOp P c bl ev H KD op=D0 P ev H KD op:=by
 rw[hw];apply propext;unfold pOp;rw[T8 hc];constructor
 ·rintro⟨e,he,_,_,hk⟩;obtain⟨d,g,rfl⟩:=D0h.1 he;have:=hk 0 trivial;refine⟨d,g,?_⟩;have e2:(val d []).app 0 H=H:=F4 H;rw[e2]at this;exact this
 ·rintro⟨d,g,hk⟩;refine⟨val d [],by rw[g];rfl,⟨by simp[val],by simp[val],by simp[val],by simp[val]⟩,?_,fun b _=>?_⟩
  ·cases op<;>try trivial
   rename_i h;obtain⟨callee,args,i⟩:=h;cases callee with
   |value f=>simp[I2]at hc
   |_=>trivial
  ·have e2:(val d []).app b H=H:=F4 H;rw[e2];exact hk
@[go_sem] theorem C8q(x:Operand):pOp P c bl ev H KD (.move x)=D0 P ev H KD (.move x):=y9 rfl rfl
@[go_sem] theorem C6a(x:Operand):pOp P c bl ev H KD (.assign x)=D0 P ev H KD (.assign x):=y9 rfl rfl
@[go_sem] theorem C8r(x y z:Operand):pOp P c bl ev H KD (.pick x y z)=D0 P ev H KD (.pick x y z):=y9 rfl rfl
@[go_sem] theorem C7s(t:Nat)(ps:Array (Nat×Operand)):pOp P c bl ev H KD (.build t ps)=D0 P ev H KD (.build t ps):=y9 rfl rfl
@[go_sem] theorem C7t(x:Operand):pOp P c bl ev H KD (.nilCheck x)=D0 P ev H KD (.nilCheck x):=y9 rfl rfl
@[go_sem] theorem C9z(op:BinOp)(t:Nat)(x y:Operand)(d:Nat):pOp P c bl ev H KD (.binOp op t x y d)=D0 P ev H KD (.binOp op t x y d):=y9 rfl rfl
@[go_sem] theorem D0J(op:UnOp)(t:Nat)(x:Operand):pOp P c bl ev H KD (.unOp op t x)=D0 P ev H KD (.unOp op t x):=y9 rfl rfl
@[go_sem] theorem D0K(t:Nat)(x:Operand)(f:Nat):pOp P c bl ev H KD (.fieldAddr t x f)=D0 P ev H KD (.fieldAddr t x f):=y9 rfl rfl
@[go_sem] theorem D0L(t:Nat)(x i:Operand):pOp P c bl ev H KD (.indexAddr t x i)=D0 P ev H KD (.indexAddr t x i):=y9 rfl rfl
@[go_sem] theorem C7u(t:Nat)(x:Operand)(lo d e:Option Operand):pOp P c bl ev H KD (.slice t x lo d e)=D0 P ev H KD (.slice t x lo d e):=y9 rfl rfl
@[go_sem] theorem C90(x:Operand)(t:Nat)(h:C8 P t≠ .map):pOp P c bl ev H KD (.call ⟨.builtin .len,#[x],#[t]⟩)=D0 P ev H KD (.call ⟨.builtin .len,#[x],#[t]⟩):=by
 have hc:I2 P (.call ⟨.builtin .len,#[x],#[t]⟩)= .pure:=by
  unfold C8 at h;cases d:P.underlying t with
  |none=>simp[I2,d]
  |some u=>cases u<;>simp[I2,d]<;>simp[d]at h
 refine y9 hc ?_;simp only[D0,hc];rfl
def B5r(bl:Bl)(H:Heap)(l:List Nat):Prop:=∀b∈l,(b∈bl.l∧H b≠none)∧b∉bl.no
@[go_sem] theorem C6b:B5r bl H []=True:=by simp[B5r]
@[go_sem high] theorem C6c(l m:List Nat)(b:Nat):B5r ⟨l,[],m⟩ H [b]=(b∈l∧H b≠none):=by simp[B5r]
@[go_sem] theorem C7v(b o:Nat):rdB (.box b o)= [b]:=rfl
@[go_sem] theorem C8s(b s i o:Nat):rdB (.el b s i o)= [b]:=rfl
@[go_sem] theorem C8t(cs:List D):rdB (.ro cs)= []:=rfl
@[go_sem] theorem C8u(t:Nat)(x:Operand):pOp P c bl ev H KD (.load t x)=(B5r bl H (rdB (ev x))∧D0 P ev H KD (.load t x)):=by
 apply propext;unfold pOp;constructor
 ·rintro⟨e,he,g,_,hk⟩;rw[I3 (by simp[I2])]at he;simp only[I1,D0h]at he;obtain⟨d,h,rfl⟩:=he;have:=hk 0 trivial;have e2:(val d (rdB (ev x))).app 0 H=H:=F4 H;rw[e2]at this;exact⟨g.rd,d,h,this⟩
 ·rintro⟨hr,d,h,hk⟩;refine⟨val d (rdB (ev x)),by rw[I3 (by simp[I2])];simp only[I1,h,Option.map_some],⟨hr,by simp[val],by simp[val],by simp[val]⟩,trivial,fun b _=>?_⟩;have e2:(val d (rdB (ev x))).app b H=H:=F4 H;rw[e2];exact hk
theorem B1p{op:Op}{f:Nat→D}{o:Obj}(ho:o.rw=true)(hr:l9 P c bl.l ev H op=some (A0s f o))(hc:O4 P c bl.l ev H op)(h: ∀b,H b=none→KD (f b) (H.set b o)):pOp P c bl ev H KD op:=
 ⟨_,hr,⟨by simp[A0s],by simp[A0s],fun o' e=>by cases e;exact ho,by simp[A0s]⟩,hc,fun b hb=>by
  have d:H b=none:=by rcases hb with hb|hb;exact hb;simp[A0s]at hb
  have e2:(A0s f o).app b H=H.set b o:=by show (H.minus []).set b o=_;rw[F4]
  rw[e2];exact h b d⟩
theorem A2z{op:Op}{f:Nat→D}{o:Obj}(hr:l9 P c bl.l ev H op=some (A0s f o))(h:pOp P c bl ev H KD op): ∀b,H b=none→KD (f b) (H.set b o):=by
 obtain⟨e,he,d,_,hk⟩:=h;rw[hr]at he;cases he;intro b hb;have:=hk b (.inl hb);have e2:(A0s f o).app b H=H.set b o:=by show (H.minus []).set b o=_;rw[F4]
 rw[e2]at this;exact this
@[go_sem] theorem C7w(t:Nat):pOp P c bl ev H KD (.alloc t)=D0 P ev H KD (.alloc t):=by
 apply propext;constructor
 ·intro h;have g:=h;obtain⟨e,he,_⟩:=g;rw[I3 (by simp[I2])]at he;simp only[I1,D0h]at he;obtain⟨z,d,rfl⟩:=he;exact⟨z,d,A2z (f:=fun b=>.box b 0) (o:=.box z (A1f P t)) (by rw[I3 (by simp[I2])];simp only[I1,d,Option.map_some]) h⟩
 ·rintro⟨z,d,hk⟩;exact B1p (f:=fun b=>.box b 0) (o:=.box z (A1f P t)) rfl (by rw[I3 (by simp[I2])];simp only[I1,d,Option.map_some]) trivial hk
@[go_sem] theorem B82(t n:Nat)(ps:Array (Nat×Operand)):pOp P c bl ev H KD (.buildSlice t n ps)=D0 P ev H KD (.buildSlice t n ps):=by
 apply propext;constructor
 ·intro h;have q:=h;obtain⟨e,he,_⟩:=q;rw[I3 (by simp[I2])]at he;simp only[I1,bsE]at he;obtain⟨⟨e',sz,g⟩,i,he⟩:=D0k.1 he;split at he
  ·rename_i h1;obtain⟨z,j,he⟩:=D0k.1 he;split at he
   ·rename_i m;obtain⟨es,d,rfl⟩:=D0h.1 he;exact⟨e',sz,g,z,es,i,h1.1,h1.2,j,m,d,A2z (f:=fun b=>.vec b sz 0 n) (o:=.vec sz es) (by rw[I3 (by simp[I2])];simp only[I1,bsE,i,D02];rw[if_pos h1,j,D02,if_pos m];simp only[d,Option.map_some]) h⟩
   ·cases he
  ·cases he
 ·rintro⟨e',sz,g,z,es,i,h1,p,j,m,d,hk⟩;exact B1p (f:=fun b=>.vec b sz 0 n) (o:=.vec sz es) rfl (by rw[I3 (by simp[I2])];simp only[I1,bsE,i,D02];rw[if_pos ⟨h1,p⟩,j,D02,if_pos m];simp only[d,Option.map_some]) trivial hk
@[go_sem] theorem C1R(t:Nat)(l c':Operand):pOp P c bl ev H KD (.makeSlice t l c')=D0 P ev H KD (.makeSlice t l c'):=by
 apply propext;constructor
 ·intro h;have A:=h;obtain⟨e,he,_⟩:=A;rw[I3 (by simp[I2])]at he;simp only[I1]at he;obtain⟨e',sz,g,z,k,n,y,m,h1,i,j,p,h5,q,r,u,x,d,rfl⟩:=A5M he;exact⟨e',sz,g,z,k,n,y,m,h1,i,j,p,h5,q,r,u,x,d,A2z (f:=fun b=>.vec b sz 0 n.toNat) (o:=.vec sz (List.replicate n.toNat z)) (by rw[I3 (by simp[I2])];exact he) h⟩
 ·rintro⟨e',sz,g,z,k,n,y,m,h1,i,j,p,h5,q,r,u,x,d,hk⟩;exact B1p (f:=fun b=>.vec b sz 0 n.toNat) (o:=.vec sz (List.replicate n.toNat z)) rfl (by rw[I3 (by simp[I2])];simp only[I1];rw[h5,q];exact C2I h1 i j p r u x d) trivial hk
def C20:D→Prop
 | .box _ _| .el _ _ _ _=>True
 |_=>False
@[go_sem] theorem C6d(b o:Nat):C20 (.box b o)=True:=rfl
@[go_sem] theorem C7x(b s i o:Nat):C20 (.el b s i o)=True:=rfl
@[go_sem] theorem C7y(t:Nat)(a x:Operand):pOp P c bl ev H KD (.store t a x)=(C20 (ev a)∧D0 P ev H KD (.store t a x)):=by
 apply propext;have g:l9 P c bl.l ev H (.store t a x)=l8 P t (ev a) (ev x) H:=by rw[I3 (by simp[I2])];rfl
 constructor
 ·rintro⟨e,he,y,_,hk⟩;rw[g]at he;unfold l8 at he;obtain⟨p,hs,he⟩:=D0k.1 he;have fin: ∀b,rdB (ev a)= [b]→(p b).map (fun o=>(⟨[],[b],some o,some b,fun _=>.undef⟩:Ef))=some e→D0 P ev H KD (.store t a x):=by
   intro b hb h1;obtain⟨o,ho,rfl⟩:=D0h.1 h1;obtain⟨o',q,_,j,_⟩:=A0u hs hb;rw[ho]at q;cases q;have:=hk b rfl;have e2:((⟨[],[b],some o,some b,fun _=>.undef⟩:Ef)).app b H=p:=by show (H.minus [b]).set b o=_;rw[Z7,j]
   rw[e2]at this;exact⟨p,hs,this⟩
  cases d:ev a with
  |box b off=>rw[d]at he;exact⟨trivial,fin b (by rw[d];rfl) he⟩
  |el b s i off=>rw[d]at he;exact⟨trivial,fin b (by rw[d];rfl) he⟩
  |_=>rw[d]at he;simp at he
 ·rintro⟨h1,p,hs,hk⟩;have fin: ∀b,rdB (ev a)= [b]→l8 P t (ev a) (ev x) H=(p b).map (fun o=>(⟨[],[b],some o,some b,fun _=>.undef⟩:Ef))→pOp P c bl ev H KD (.store t a x):=by
   intro b hb hst;obtain⟨o,ho,u,j,r⟩:=A0u hs hb;rw[ho,Option.map_some]at hst;refine⟨_,g.trans hst,⟨by simp,fun k hk=>?_,fun o' z=>by cases z;exact u,fun k hk=>by cases hk;simp⟩,trivial,fun k m=>?_⟩
   ·simp at hk;subst hk;exact⟨(fun h=>absurd h (by simp)),r⟩
   ·have m:k=b:=m;subst m;show KD .undef ((H.minus [k]).set k o);rw[Z7,←j];exact hk
  cases d:ev a with
  |box b off=>exact fin b (by rw[d];rfl) (by rw[d]at hs⊢;simp only[l8,hs,D02])
  |el b s i off=>exact fin b (by rw[d];rfl) (by rw[d]at hs⊢;simp only[l8,hs,D02])
  |_=>rw[d]at h1;exact h1.elim
def xOk(bl:Bl)(H:Heap)(l:List Nat):Prop:=(∀b∈inB bl.l l,H b≠none∧b∉bl.no)∧∀b∈S1 bl.l l,B1Z (H b)=true
def C21(bl:Bl)(b:Nat):Prop:=b∉bl.l∨b∈bl.may
def paV(o:Option Obj)(bl:Bl)(xl:List Nat)(b sz n by_:Nat)(xs:List (List D))(H:Heap)(KD:D→Heap→Prop):Prop:=match o with
 |some (.vec sz' es)=>sz'=sz∧n≤es.length∧(n+xs.length)*by_≤140737488355328∧n+xs.length≤9223372036854775807∧C21 bl b∧xOk bl H xl∧
   ∀b',(H b'=none∨b'∈b::S1 bl.l xl)→KD (.vec b' sz 0 (n+xs.length)) ((H.minus (b::S1 bl.l xl)).set b' (.vec sz (es.take n++xs)))
 |_=>False
@[go_sem] theorem B2w(bl:Bl)(e:List Nat)(b sz sz' n d:Nat)(es xs:List (List D)):paV (some (.vec sz' es)) bl e b sz n d xs H KD=(sz'=sz∧n≤es.length∧(n+xs.length)*d≤140737488355328∧n+xs.length≤9223372036854775807∧C21 bl b∧xOk bl H e∧
      ∀g,(H g=none∨g∈b::S1 bl.l e)→KD (.vec g sz 0 (n+xs.length)) ((H.minus (b::S1 bl.l e)).set g (.vec sz (es.take n++xs)))):=rfl
def paS(s:D)(bl:Bl)(xl:List Nat)(sz by_:Nat)(xs:List (List D))(H:Heap)(KD:D→Heap→Prop):Prop:=match s with
 | .nilsl=>xs.length*by_≤140737488355328∧xs.length≤9223372036854775807∧xs.isEmpty=false∧xOk bl H xl∧∀b,(H b=none∨b∈S1 bl.l xl)→KD (.vec b sz 0 xs.length) ((H.minus (S1 bl.l xl)).set b (.vec sz xs))
 | .vec b sz' lo n=>sz'=sz∧lo=0∧paV (H b) bl xl b sz n by_ xs H KD
 |_=>False
@[go_sem] theorem B83(bl:Bl)(e:List Nat)(sz d:Nat)(xs:List (List D)):paS .nilsl bl e sz d xs H KD=(xs.length*d≤140737488355328∧xs.length≤9223372036854775807∧xs.isEmpty=false∧xOk bl H e∧∀b,(H b=none∨b∈S1 bl.l e)→KD (.vec b sz 0 xs.length) ((H.minus (S1 bl.l e)).set b (.vec sz xs))):=rfl
@[go_sem] theorem B2x(bl:Bl)(e:List Nat)(b sz sz' lo n d:Nat)(xs:List (List D)):paS (.vec b sz' lo n) bl e sz d xs H KD=(sz'=sz∧lo=0∧paV (H b) bl e b sz n d xs H KD):=rfl
def paX(o:Option (List (List D)))(s x:D)(bl:Bl)(sz by_:Nat)(H:Heap)(KD:D→Heap→Prop):Prop:=match o with
 |some xs=>paS s bl (S0 x) sz by_ xs H KD
 |none=>False
@[go_sem] theorem A94(xs:List (List D))(s x:D)(sz d:Nat):paX (some xs) s x bl sz d H KD=paS s bl (S0 x) sz d xs H KD:=rfl
def paK(P:Program)(et:Option (Nat×Nat×Nat))(bt:Q9)(s x:D)(bl:Bl)(H:Heap)(KD:D→Heap→Prop):Prop:=match et with
 |some (e,sz,by_)=>0<sz∧apT bt∧apZ (F9 P e) sz∧paX (L6 H sz x) s x bl sz by_ H KD
 |none=>False
@[go_sem] theorem A95(e sz d:Nat)(g:Q9)(s x:D):paK P (some (e,sz,d)) g s x bl H KD=(0<sz∧apT g∧apZ (F9 P e) sz∧paX (L6 H sz x) s x bl sz d H KD):=rfl
@[go_sem] theorem C6f(b sz lo n:Nat):S0 (.vec b sz lo n)= [b]:=rfl
@[go_sem] theorem C70(sz:Nat)(es:List (List D)):S0 (.sl sz es)= []:=rfl
@[go_sem] theorem C6g(s:ByteArray):S0 (.str s)= []:=rfl
@[go_sem] theorem C6h(k:IntKind)(n:Int):S0 (.int k n)= []:=rfl
@[go_sem] theorem C5Q(b:Bool):S0 (.bool b)= []:=rfl
@[go_sem] theorem C6i(cs:List D):S0 (.agg cs)= []:=rfl
@[go_sem] theorem C6j(b o:Nat):S0 (.box b o)= [b]:=rfl
@[go_sem] theorem V6(bl:List Nat):S1 bl []= []:=rfl
theorem A96{bl:List Nat}(b:Nat)(l:List Nat)(h:b∉bl):S1 bl (b::l)=b::S1 bl l:=by simp[S1,h]
theorem B84{bl:List Nat}(b:Nat)(l:List Nat)(h:b∈bl):S1 bl (b::l)=S1 bl l:=by simp[S1,h]
@[go_sem] theorem A8X:xOk bl H []=True:=by simp[xOk,inB,S1]
theorem B2y(b:Nat)(o:Obj)(hb:H b=some o)(hr:o.rw=true)(e:b∉bl.l∨b∉bl.no):xOk bl H [b]:=by
 refine⟨fun k hk=>?_,fun k hk=>?_⟩
 ·have d:=m0.1 hk;have:=d.1;simp at this;subst this;exact⟨by rw[hb];simp,e.resolve_left fun g=>g d.2⟩
 ·have:=(S2.1 hk).1;simp at this;subst this;rw[hb];exact hr
theorem z7(b:Nat)(l:List Nat):H.minus (b::l)=(H.del b).minus l:=by
 funext k;unfold Heap.minus Heap.del
 by_cases h1:k=b<;>by_cases d:k∈l<;>simp[h1,d]
theorem A4r{s x:Operand}{t p:Nat}(h:paK P (G7 P t) (C8 P p) (ev s) (ev x) bl H KD):pOp P c bl ev H KD (.call ⟨.builtin .append,#[s,x],#[t,p]⟩):=by
 have j:l9 P c bl.l ev H (.call ⟨.builtin .append,#[s,x],#[t,p]⟩)=B1a P bl.l H t p (ev s) (ev x):=by rw[I3 (by simp[I2])];rfl
 unfold paK at h;split at h
 ·rename_i e sz T U;obtain⟨h1,V,q,i⟩:=h;have u:(F9 P e).map (·.length)=some sz:=by
   unfold apZ at q;split at q
   ·rename_i z W;rw[W];simp[q]
   ·exact q.elim
  unfold paX at i;split at i
  ·rename_i xs y;have d:=j;unfold B1a at d;rw[U,D02,if_pos ⟨h1,V,u⟩,y,D02]at d;have m: ∀(del:List Nat) (new:Option Obj) (f:Nat→D),xOk bl H (S0 (ev x))→(∀b∈del,C21 bl b∧B1Z (H b)=true)→(∀o,new=some o→o.rw=true)→A5y bl H ⟨inB bl.l (S0 (ev x)),del,new,none,f⟩:=fun del new f hx L hn=>
    ⟨fun b hb=>⟨⟨(m0.1 hb).2,(hx.1 b hb).1⟩,(hx.1 b hb).2⟩,fun b hb=>⟨fun _=>(L b hb).1,(L b hb).2⟩,hn,fun b hb=>by cases hb⟩
   unfold paS at i;split at i
   ·rename_i hs;obtain⟨A,C,G,r,I⟩:=i;rw[hs]at d;simp only at d;rw[if_pos ⟨A,C,G⟩]at d;exact⟨_,d,m _ _ _ r (fun b hb=>⟨.inl (S2.1 hb).2,r.2 b hb⟩) (fun o ho=>by cases ho;rfl),trivial,fun b hb=>I b hb⟩
   ·rename_i b sz' lo n hs;obtain⟨A,C,h5⟩:=i;unfold paV at h5;split at h5
    ·rename_i M es hb;obtain⟨G,r,I,X,Y,O,k9⟩:=h5;rw[hs]at d;simp only[hb]at d;rw[if_pos ⟨A,G,C,r,I,X⟩]at d;refine⟨_,d,m _ _ _ O (fun J g=>?_) (fun o ho=>by cases ho;rfl),trivial,fun J g=>k9 J g⟩;rcases D00.1 g with rfl|g
     ·exact⟨Y,by rw[hb];rfl⟩
     ·exact⟨.inl (S2.1 g).2,O.2 J g⟩
    ·exact h5.elim
   ·exact i.elim
  ·exact i.elim
 ·exact h.elim
def A6z:List D→List Nat:=fun l=>l.flatMap S0
@[go_sem] theorem C6k:A6z []= []:=rfl
theorem B4D(d:D)(l:List D):A6z (d::l)=S0 d++A6z l:=by simp[A6z]
attribute [go_sem] B4D
def crK(c:CR)(H:Heap)(l:List Nat)(KD:D→Heap→Prop):Prop:=match c.new with
 |none=>KD (c.val 0) (H.minus l)
 |some o=>o.rw=true∧∀b,(H b=none∨b∈l)→KD (c.val b) ((H.minus l).set b o)
def pcA(P:Program)(c:CR)(bl:Bl)(f:D)(args:List D)(H:Heap)(KD:D→Heap→Prop):Prop:=match f with
 | .fn (.func g) first cap=>(∀b∈inB bl.l (A6z (first++args++cap)),H b≠none∧b∉bl.no)∧(∀b∈S1 bl.l (A6z (first++args++cap)),B1Z (H b)=true)∧
   B5P P g (first++args++cap) H (A6z (first++args++cap)) (S1 bl.l (A6z (first++args++cap))) c∧crK c H (S1 bl.l (A6z (first++args++cap))) KD
 |_=>False
def pcB(P:Program)(c:CR)(bl:Bl)(g:Nat)(as_:List D)(l:List Nat)(H:Heap)(KD:D→Heap→Prop):Prop:=xOk bl H l∧B5P P g as_ H l (S1 bl.l l) c∧crK c H (S1 bl.l l) KD
@[go_sem] theorem C8w(g:Nat)(first args cap:List D):pcA P c bl (.fn (.func g) first cap) args H KD=pcB P c bl g (first++args++cap) (A6z (first++args++cap)) H KD:=by
 unfold pcA pcB xOk;simp only[and_assoc]
@[go_sem] theorem C8x(f:Operand)(args:List Operand)(m:Array Nat):pOp P c bl ev H KD (.call ⟨.value f,args.toArray,m⟩)=pcA P c bl (ev f) (args.map ev) H KD:=by
 have i:l9 P c bl.l ev H (.call ⟨.value f,args.toArray,m⟩)=I1 P c bl.l ev H (.call ⟨.value f,args.toArray,m⟩):=I3 (by simp[I2]);apply propext;unfold pcA;constructor
 ·rintro⟨e,he,d,hc,hk⟩;rw[i]at he;simp only[I1]at he;simp only[O4]at hc;split at he
  ·rename_i g first cap hf
   cases he
   (first|rw[hf]at hc⊢ |rw[hf]at hc)
   refine⟨fun b hb=>⟨(d.rd b hb).1.2,(d.rd b hb).2⟩,fun b hb=>(d.del b hb).2,hc,?_⟩;unfold crK;unfold Ef.okH Ef.app at hk;cases hn:c.new with
   |none=>simp only[hn,CR.f]at hk⊢;exact hk 0 trivial
   |some o=>
    simp only[hn,CR.f]at hk⊢;exact⟨d.new o hn,fun b hb=>hk b hb⟩
  ·cases he
 ·intro h;split at h
  ·rename_i g first cap hf
   obtain⟨h1,p,q,j⟩:=h;refine⟨⟨inB bl.l ((first++args.map ev++cap).flatMap S0),S1 bl.l ((first++args.map ev++cap).flatMap S0),c.new,none,c.f⟩,?_,⟨fun b hb=>⟨⟨(m0.1 hb).2,(h1 b hb).1⟩,(h1 b hb).2⟩,fun b hb=>⟨fun _=>.inl (S2.1 hb).2,p b hb⟩,fun o ho=>?_,by simp⟩,?_,fun b hb=>?_⟩
   ·rw[i];simp only[I1,hf]
   ·unfold crK at j;simp only at ho;rw[ho]at j;exact j.1
   ·simp only[O4,hf];exact q
   ·unfold crK at j;unfold Ef.okH at hb;unfold Ef.app;cases hn:c.new with
    |none=>simp only[hn,CR.f]at j⊢;exact j
    |some o=>
     simp only[hn,CR.f]at j hb⊢;exact j.2 b hb
  ·exact h.elim
theorem R6{g:Nat}{d:List D}{c:D}(h: ∀(H':Heap) (Q:D→Heap→Prop),(∀k cs,H k=some (.ro cs)→H' k=some (.ro cs))→Q c H'→ACalls P g d H' Q)(hk:KD c H):pcB P (.c c) bl g d [] H KD:=
 ⟨by rw[A8X];trivial,fun H' hro _=>h H' _ hro ⟨rfl,by rw[V6,F4];exact D1z H'⟩,by rw[V6];show KD c (H.minus []);rw[F4];exact hk⟩
theorem pc1{g b:Nat}{d:List D}{c:D}{o:Obj}(hb:H b=some o)(hr:o.rw=true)(hn:b∉bl.l)(h: ∀(H':Heap) (Q:D→Heap→Prop),(∀k cs,H k=some (.ro cs)→H' k=some (.ro cs))→H' b=some o→Q c (H'.del b)→ACalls P g d H' Q)(hk:KD c (H.del b)):pcB P (.c c) bl g d [b] H KD:=by
 have e:S1 bl.l [b]= [b]:=by rw[A96 b [] hn,V6]
 have e2: ∀H:Heap,H.minus [b]=H.del b:=fun H=>by rw[z7,F4]
 exact⟨B2y b o hb hr (.inl hn),fun H' hro i=>h H' _ hro (by rw[i b (by simp),hb]) ⟨rfl,by rw[e,e2];exact D1z _⟩,by rw[e];show KD c (H.minus [b]);rw[e2];exact hk⟩
theorem pcm{g:Nat}{d:List D}{f:Nat→D}{o:Obj}(ho:o.rw=true)(h: ∀(H':Heap) (Q:D→Heap→Prop),(∀k cs,H k=some (.ro cs)→H' k=some (.ro cs))→(∀b,H' b=none→Q (f b) (H'.set b o))→ACalls P g d H' Q)(hk: ∀b,H b=none→KD (f b) (H.set b o)):pcB P (.mk' f o) bl g d [] H KD:=by
 refine⟨by rw[A8X];trivial,fun H' hro _=>h H' _ hro fun b hb=>?_,?_⟩
 ·exact⟨b,.inl hb,rfl,by rw[V6,F4];exact D1z _⟩
 ·rw[V6];refine⟨ho,fun b hb=>?_⟩;rw[F4];exact hk b (hb.resolve_right (by simp))
theorem C23{bl:List Nat}(b:Nat)(h:b∈bl):inB bl [b]= [b]:=by simp[inB,h]
theorem C8y{g b:Nat}{d:List D}{f:Nat→D}{o o':Obj}(hb:H b=some o)(hl:b∈bl.l)(hn:b∉bl.no)(ho:o'.rw=true)(h: ∀(H':Heap) (Q:D→Heap→Prop),(∀k cs,H k=some (.ro cs)→H' k=some (.ro cs))→H' b=some o→(∀v,H' v=none→Q (f v) (H'.set v o'))→ACalls P g d H' Q)(hk: ∀v,H v=none→KD (f v) (H.set v o')):pcB P (.mk' f o') bl g d [b] H KD:=by
 have e:S1 bl.l [b]= []:=by rw[B84 b [] hl,V6]
 refine⟨⟨fun k hk=>?_,fun k hk=>?_⟩,fun H' hro i=>h H' _ hro (by rw[i b (by simp),hb]) fun v hv=>?_,?_⟩
 ·rw[C23 b hl]at hk;simp at hk;subst hk;exact⟨by rw[hb];simp,hn⟩
 ·rw[e]at hk;cases hk
 ·exact⟨v,.inl hv,rfl,by rw[e,F4];exact D1z _⟩
 ·rw[e];refine⟨ho,fun v hv=>?_⟩;rw[F4];exact hk v (hv.resolve_right (by simp))
end
def J1(sz n:Nat):Option Nat→D
 |none=>.nilsl
 |some c=>.vec c sz 0 n
def K1(H:Heap):Option Nat→Heap
 |none=>H
 |some c=>H.del c
def putB(H:Heap)(sz:Nat)(es:List (List D)):Option Nat→Heap
 |none=>H
 |some c=>H.set c (.vec sz es)
def OutAt(H:Heap)(sz:Nat)(es:List (List D)):Option Nat→Prop
 |none=>es= []
 |some c=>H c=some (.vec sz es)
theorem E7{H:Heap}{b:Nat}{o:Obj}(h:H b=none):(H.set b o).del b=H:=by
 funext k
 unfold Heap.del Heap.set;by_cases hk:k=b
 ·subst hk;simp[h]
 ·simp[hk]
theorem B85(H:Heap)(ob:Option Nat):(K1 H ob).Le H:=by
 cases ob with
 |none=>exact D1z H
 |some c=>exact E9 H c
@[go_sem] theorem C5R(sz n:Nat)(ob:Option Nat):(J1 sz n ob).cells= [J1 sz n ob]:=by cases ob<;>rfl
@[go_sem] theorem C6m(sz n:Nat):J1 sz n none= .nilsl:=rfl
@[go_sem] theorem K9(sz n c:Nat):J1 sz n (some c)= .vec c sz 0 n:=rfl
theorem B2z{P:Program}{t sz n:Nat}{ob:Option Nat}(h:ob=none→n=0):A5g P t (J1 sz n ob)=if C8 P t= .slice then some (.int .i64 n)else none:=by
 cases ob with
 |none=>rw[h rfl];rfl
 |some c=>rfl
section
variable {P:Program} {H:Heap} {KD:D→Heap→Prop}
theorem A8Y{sz d n:Nat}{ob:Option Nat}(es:List (List D)){xs:List (List D)}(g:xs≠[])(hn:n=es.length)(hc:OutAt H sz es ob)(h1:(n+xs.length)*d≤140737488355328)(i:n+xs.length≤9223372036854775807)
  (h: ∀b',K1 H ob b'=none→KD (.vec b' sz 0 (n+xs.length)) ((K1 H ob).set b' (.vec sz (es++xs)))):apS (J1 sz n ob) sz d xs H KD:=by
 cases ob with
 |none=>
  have e:es= []:=hc;subst e;subst hn;simp only[D0f,Nat.zero_add,D1k,K1]at h1 i h;exact⟨h1,i,fun e=>absurd e g,fun _ b hb=>h b hb⟩
 |some c=>
  have e:H c=some (.vec sz es):=hc;subst hn;refine⟨rfl,.inl ⟨rfl,?_⟩⟩;rw[e];refine⟨rfl,D0s _,h1,i,fun b hb=>?_⟩;rw[D0n (D0s _)];exact h b hb
theorem ACalls.out{f n:Nat}{sz:Nat}{es:List (List D)}{ob:Option Nat}{ds:List D}{Q:D→Heap→Prop}(hn:n=es.length)(hc:OutAt H sz es ob)(h:ACalls P f (.sl sz es::ds) (K1 H ob) Q):ACalls P f (J1 sz n ob::ds) H Q:=by
 subst hn;cases ob with
 |none=>
  have e:es= []:=hc;subst e;refine ACalls.shift (args':=.sl sz []::ds) (fun w vs h1 g m=>⟨by simpa using h1,fun i d j=>?_,m,fun _ hn=>hn⟩) h;cases i with
  |zero=>simp at j;subst j;exact(g 0 _ rfl).nil_sl sz
  |succ i=>exact g (i+1) d (by simpa using j)
 |some c=>
  refine ACalls.freeze (args':=.sl sz es::ds) hc (by simp) (fun i d d' h1 g=>?_) h;cases i with
  |zero=>simp[J1]at h1 g;subst h1;subst g;exact .all
  |succ i=>simp at h1 g;rw[h1]at g;cases g;exact .same _
theorem U4{f b n sz:Nat}{es:List (List D)}{ds:List D}{Q:D→Heap→Prop}(hb:H b=some (.vec sz es))(hn:n=es.length)(h:ACalls P f (.sl sz es::ds) (H.del b) Q):ACalls P f (.vec b sz 0 n::ds) H Q:=
 ACalls.out (ob:=some b) hn hb h
theorem A0b{f b n sz:Nat}{es:List (List D)}{a:D}{ds:List D}{Q:D→Heap→Prop}(hb:H b=some (.vec sz es))(hn:n=es.length)(h:ACalls P f (a:: .sl sz es::ds) (H.del b) Q):ACalls P f (a:: .vec b sz 0 n::ds) H Q:=by
 subst hn;refine ACalls.freeze (args':=a:: .sl sz es::ds) hb (by simp) (fun i d d' h1 e=>?_) h
 match i with
 |0=>simp at h1 e;subst h1;subst e;exact .same _
 |1=>simp at h1 e;subst h1;subst e;exact .all
 |i+2=>simp at h1 e;rw[h1]at e;cases e;exact .same _
theorem Fin.out{n sz:Nat}{es:List (List D)}{ob:Option Nat}{Q:D→Heap→Prop}(hn:n=es.length)(hc:OutAt H sz es ob)(h:Fin Q (.sl sz es) (K1 H ob)):Fin Q (J1 sz n ob) H:=by
 subst hn;cases ob with
 |none=>
  have e:es= []:=hc;subst e;unfold Fin at h⊢;obtain⟨d,e,h1,g⟩:=h;exact⟨d,e,Shift.trans (fun w v hr hs=>⟨by cases hr;exact .sl0 _ _ _,hs,fun _ hn=>hn⟩) h1,g⟩
 |some c=>exact Fin.freeze hc .all h
theorem A6t{n sz:Nat}{es:List (List D)}{ob:Option Nat}{ds:List D}{Q:D→Heap→Prop}(hn:n=es.length)(hc:OutAt H sz es ob)(h:Fin Q (.tuple (.sl sz es::ds)) (K1 H ob)):Fin Q (.tuple (J1 sz n ob::ds)) H:=by
 cases ob with
 |none=>
  have e:es= []:=hc;subst e;exact Fin.nilsl sz ds h
 |some c=>exact B2a hc hn h
end
theorem B4E{H:Heap}{sz:Nat}{es:List (List D)}{ob:Option Nat}(h:ob=none→es= []):OutAt (putB H sz es ob) sz es ob:=by
 cases ob with
 |none=>exact h rfl
 |some c=>simp[OutAt,putB,Heap.set]
def Rw{α :Type}(f: α →List D)(l:List α):List (List D):=l.map f
section
variable {α :Type} {f: α →List D}
@[go_sem] theorem D6(l:List α):(Rw f l).length=l.length:=by simp[Rw]
theorem B2(l:List α)(k:Nat)(h:k<l.length):(Rw f l).getD k []=f l[k]:=by simp[Rw,h]
theorem C2(l:List α)(k:Nat)(h:k<l.length):(Rw f l)[k]? =some (f l[k]):=by simp[Rw,h]
theorem A2N(l:List α)(k:Nat):(Rw f l).take k=Rw f (l.take k):=by simp[Rw]
theorem A5Q(l:List α)(k:Nat):(Rw f l).drop k=Rw f (l.drop k):=by simp[Rw]
theorem O7(l m:List α):Rw f l++Rw f m=Rw f (l++m):=by simp[Rw]
theorem A0h:Rw f []= []:=rfl
theorem Y9(l:List α)(k:Nat)(x: α)(c:List D)(h:f x=c):(Rw f l).set k c=Rw f (l.set k x):=by subst h;simp[Rw,List.map_set]
theorem A59(n:Nat)(x: α)(c:List D)(h:f x=c):List.replicate n c=Rw f (List.replicate n x):=by subst h;simp[Rw]
end
def K2(s:ByteArray):List D:=[.str s]
@[go_sem] theorem C8z(s:ByteArray):K2 s= [.str s]:=rfl
def OutIn(H:Heap)(sz:Nat)(es:List (List D))(ob:Option Nat)(Hc:Heap):Prop:=H.Le Hc∧OutAt Hc sz es ob∧∀b,ob=some b→H b=none
theorem OutIn.set{H:Heap}{sz:Nat}{es:List (List D)}{ob:Option Nat}{d:Heap}(h:OutIn H sz es ob d){b:Nat}(hb:d b=none)(o:Obj):OutIn H sz es ob (d.set b o):=by
 refine⟨h.1.trans (A0 hb),?_,h.2.2⟩;cases ob with
 |none=>exact h.2.1
 |some c=>
  have hc:d c=some (.vec sz es):=h.2.1;show (d.set b o) c=_;rw[A4 o (by rintro rfl;rw[hb]at hc;cases hc)];exact hc
theorem OutIn.le{H:Heap}{sz:Nat}{es:List (List D)}{ob:Option Nat}{d:Heap}(h:OutIn H sz es ob d):H.Le (K1 d ob):=by
 cases ob with
 |none=>exact h.1
 |some c=>
  intro k x hk;show (d.del c) k=_;rw[D4 (by rintro rfl;rw[h.2.2 _ rfl]at hk;cases hk)];exact h.1 k x hk
theorem OutIn.new{H:Heap}{sz:Nat}{es:List (List D)}{ob:Option Nat}{d:Heap}(h:OutIn H sz es ob d){b:Nat}(hb:K1 d ob b=none):H b=none:=h.le.none hb
theorem OutIn.step{H:Heap}{sz:Nat}{es:List (List D)}{ob:Option Nat}{d:Heap}(h:OutIn H sz es ob d){b:Nat}(o:Obj):(H.set b o).Le ((K1 d ob).set b o):=by
 intro k x hk;unfold Heap.set at hk⊢;split
 ·rename_i e;rw[if_pos e]at hk;exact hk
 ·rename_i e;rw[if_neg e]at hk;exact h.le k x hk
end Go.Av
namespace Go.Lin
open Go Go.Av
def F1:List Nat→Nat
 | []=>0
 |d::l=>d+4294967296*F1 l
def C0(n:Nat):List Nat:=if h:n=0 then []else n % 4294967296::C0 (n / 4294967296)
termination_by n
decreasing_by exact Nat.div_lt_self (Nat.pos_of_ne_zero h) (by decide)
def F2(d:Nat):List D:=[.int .u32 d]
@[go_sem] theorem C80(n:Nat):F2 n= [.int .u32 n]:=rfl
abbrev X6(n:Nat):D:=.sl 1 (Rw F2 (C0 n))
def Dig(l:List Nat):Prop:=∀d∈l,d<4294967296
theorem J6:C0 0= []:=by unfold C0;simp
theorem z8{n:Nat}(h:n≠0):C0 n=n % 4294967296::C0 (n / 4294967296):=by rw[C0];simp[h]
theorem P4(n:Nat):Dig (C0 n):=by
 induction n using Nat.strongRecOn with
 |ind n g=>
  intro d e;by_cases h:n=0
  ·subst h;rw[J6]at e;cases e
  ·rw[z8 h]at e;rcases D00.1 e with rfl|e
   ·exact Nat.mod_lt _ (by decide)
   ·exact g (n / 4294967296) (Nat.div_lt_self (Nat.pos_of_ne_zero h) (by decide)) d e
theorem K3(n:Nat):F1 (C0 n)=n:=by
 induction n using Nat.strongRecOn with
 |ind n d=>
  by_cases h:n=0
  ·subst h;rw[J6];rfl
  ·rw[z8 h,F1,d _ (Nat.div_lt_self (Nat.pos_of_ne_zero h) (by decide))];exact Nat.mod_add_div n 4294967296
theorem j4(l m:List Nat):F1 (l++m)=F1 l+4294967296 ^ l.length*F1 m:=by
 induction l with
 |nil=>simp[F1]
 |cons d l e=>
  rw[D1j,F1,e,F1,D0d,Nat.pow_succ,Nat.mul_add,Nat.mul_comm (4294967296 ^ l.length) 4294967296,Nat.mul_assoc,Nat.add_assoc]
theorem t8(l:List Nat)(d:Nat):F1 (l++[d])=F1 l+4294967296 ^ l.length*d:=by rw[j4];simp[F1]
theorem H6(l:List Nat)(i:Nat)(h:i<l.length):F1 (l.take (i+1))=F1 (l.take i)+4294967296 ^ i*l[i]:=by
 rw[D0r h,t8,D1G,Nat.min_eq_left (by omega)]
theorem A2O(l:List Nat)(i:Nat)(h:i<l.length):F1 (l.drop i)=l[i]+4294967296*F1 (l.drop (i+1)):=by
 rw[D03 h,F1]
theorem B1q(n:Nat):F1 (List.replicate n 0)=0:=by
 induction n with
 |zero=>rfl
 |succ n d=>rw[List.replicate_succ,F1,d]
theorem A8Z{l:List Nat}(h:Dig l):F1 l<4294967296 ^ l.length:=by
 induction l with
 |nil=>simp[F1]
 |cons d l e=>
  have h1:=h d (D0j ..);have g:=e (fun x hx=>h x (D0q _ hx));rw[F1,D0d,Nat.pow_succ]
  calc d+4294967296*F1 l<4294967296+4294967296*F1 l:=by omega
   _=4294967296*(F1 l+1):=by rw[Nat.mul_add];omega
   _≤4294967296*4294967296 ^ l.length:=Nat.mul_le_mul_left _ g
   _=4294967296 ^ l.length*4294967296:=Nat.mul_comm _ _
theorem B86{l:List Nat}(h:Dig l)(hl: ∀(hn:l≠[]),l.getLast hn≠0):C0 (F1 l)=l:=by
 induction l with
 |nil=>rw[F1,J6]
 |cons d l m=>
  have h1:d<4294967296:=h d (D0j ..);have i:=m (fun x hx=>h x (D0q _ hx)) (fun hn=>by
   have:=hl (List.cons_ne_nil _ _);rwa [List.getLast_cons hn]at this)
  have j:F1 (d::l)≠0:=by
   rw[F1];cases l with
   |nil=>
    have:=hl (List.cons_ne_nil _ _);simp at this;simp[F1,this]
   |cons e l=>
    intro p;have o:F1 (e::l)=0:=by
     have:4294967296*F1 (e::l)=0:=by omega
     rcases Nat.mul_eq_zero.1 this with g|g
     ·exact absurd g (by decide)
     ·exact g
    rw[o,J6]at i;cases i
  rw[z8 j];have e1:F1 (d::l) % 4294967296=d:=by rw[F1,Nat.add_mul_mod_self_left];exact D1Z h1
  have e2:F1 (d::l) / 4294967296=F1 l:=by rw[F1,Nat.add_mul_div_left _ _ (by decide),Nat.div_eq_of_lt h1,Nat.zero_add]
  rw[e1,e2,i]
theorem B4F(n:Nat): ∀(hn:C0 n≠[]),(C0 n).getLast hn≠0:=by
 induction n using Nat.strongRecOn with
 |ind n j=>
  intro hn;by_cases h:n=0
  ·subst h;rw[J6]at hn;exact absurd rfl hn
  ·have e:=z8 h;by_cases i:n / 4294967296=0
   ·have e2:C0 n= [n % 4294967296]:=by rw[e,i,J6]
    have:n % 4294967296=n:=D1Z (by rcases Nat.div_eq_zero_iff.1 i with g|g;exact absurd g (by decide);exact g);simp only[e2,List.getLast_singleton,this];exact h
   ·have d:C0 (n / 4294967296)≠[]:=by rw[z8 i];exact List.cons_ne_nil _ _
    have g:=j (n / 4294967296) (Nat.div_lt_self (Nat.pos_of_ne_zero h) (by decide)) d;have e3:(C0 n).getLast hn=(n % 4294967296::C0 (n / 4294967296)).getLast (List.cons_ne_nil _ _):=by congr 1
    rw[e3,List.getLast_cons d];exact g
theorem B87{l m:List Nat}{x:Nat}(e:l=m++[x])(h:l≠[]):l.getLast h=x:=by subst e;simp
def A0A:List Nat→Nat→Nat
 |_,0=>0
 |l,n+1=>if l.getD n 0=0 then A0A l n else n+1
theorem A97(l:List Nat)(n:Nat):A0A l n≤n:=by
 induction n with
 |zero=>exact D0s _
 |succ n d=>unfold A0A;split;omega;exact D0s _
theorem A6A{l:List Nat}(h:Dig l): ∀n,n≤l.length→l.take (A0A l n)=C0 (F1 (l.take n))
 |0,_=>by simp[A0A,F1,J6]
 |n+1,hn=>by
  have hl:n<l.length:=by omega
  have i:l.getD n 0=l[n]:=by simp[hl]
  unfold A0A;rw[i];split
  ·rename_i e;rw[A6A h n (by omega),H6 l n hl,e,Nat.mul_zero,Nat.add_zero]
  ·rename_i e;refine(B86 (fun d j=>h d (List.mem_of_mem_take j)) fun g=>?_).symm;rw[B87 (D0r hl) g];exact e
theorem A98{l:List Nat}(h:Dig l):l.take (A0A l l.length)=C0 (F1 l):=by
 have:=A6A h l.length (D0s _);rwa [List.take_length]at this
theorem A99(n k:Nat)(h:n<4294967296 ^ k):(C0 n).length≤k:=by
  induction k generalizing n with
  | zero => have:n=0:=by simpa using h
            subst this;rw[J6];exact D0s _
  |succ k e=>
    by_cases d:n=0
    · subst d;rw[J6];exact D0t _
    · rw[z8 d,D0d]
      have:=e (n / 4294967296) (Nat.div_lt_of_lt_mul (by rw[Nat.pow_succ,Nat.mul_comm]at h;exact h));omega
theorem I6(n:Nat):(C0 n).length=0↔n=0:=by
 constructor
 ·intro h;have:=K3 n;rw[D0w h]at this;exact this.symm
 ·rintro rfl;rw[J6];rfl
theorem A3S{n:Nat}(h:n<4294967296)(d:n≠0):C0 n= [n]:=by
 rw[z8 d,D1Z h,Nat.div_eq_of_lt h,J6]
theorem A0T{a b:Nat}(h:(C0 a).length<(C0 b).length):a<b:=by
 by_cases hb:b=0
 ·subst hb;rw[J6]at h;simp at h
 ·have h1:a<4294967296 ^ (C0 a).length:=by have:=A8Z (P4 a);rwa [K3]at this
  have d:C0 b≠[]:=by intro e;rw[e]at h;simp at h
  have i:4294967296 ^ ((C0 b).length-1)≤b:=by
   have e:=List.dropLast_concat_getLast d;have g:=K3 b;rw[←e,t8]at g;have l:=B4F b d;have:4294967296 ^ (C0 b).dropLast.length*1≤4294967296 ^ (C0 b).dropLast.length*(C0 b).getLast d:=Nat.mul_le_mul_left _ (by omega);rw[List.length_dropLast]at this;rw[List.length_dropLast]at g;omega
  exact D1U h1 (D1e (Nat.pow_le_pow_right (by decide) (by omega)) i)
theorem B4G{a b:Nat}(h:a≤b):(C0 a).length≤(C0 b).length:=by
 by_cases g:(C0 b).length<(C0 a).length
 ·have:=A0T g;omega
 ·omega
theorem B0A{l m:List Nat}(hl:Dig l)(hm:Dig m)(he:l.length=m.length){i:Nat}(g:i<l.length)(e:l.drop (i+1)=m.drop (i+1)):l[i]<m[i]'(by omega)→F1 l<F1 m:=fun h=>by
 have e1:F1 l=F1 (l.take i)+4294967296 ^ i*(l[i]+4294967296*F1 (l.drop (i+1))):=by
  conv=>lhs;rw[←D1J i l,j4,A2O l i g,D1G,Nat.min_eq_left (by omega)]
 have e2:F1 m=F1 (m.take i)+4294967296 ^ i*(m[i]+4294967296*F1 (m.drop (i+1))):=by
  conv=>lhs;rw[←D1J i m,j4,A2O m i (by omega),D1G,Nat.min_eq_left (by omega)]
 have j:=A8Z (l:=l.take i) (fun d e=>hl d (List.mem_of_mem_take e));rw[D1G,Nat.min_eq_left (by omega)]at j;rw[e1,e2,e]
 calc F1 (l.take i)+4294967296 ^ i*(l[i]+4294967296*F1 (m.drop (i+1)))<4294967296 ^ i+4294967296 ^ i*(l[i]+4294967296*F1 (m.drop (i+1))):=by omega
  _=4294967296 ^ i*(l[i]+1+4294967296*F1 (m.drop (i+1))):=by rw[Nat.mul_add,Nat.mul_add,Nat.mul_add];omega
  _≤4294967296 ^ i*(m[i]+4294967296*F1 (m.drop (i+1))):=Nat.mul_le_mul_left _ (by omega)
  _≤_:=Nat.le_add_left _ _
theorem A1N(L:List Nat)(s:Nat):F1 (L++[s % 4294967296])+4294967296 ^ (L.length+1)*(s / 4294967296)=F1 L+4294967296 ^ L.length*s:=by
 rw[t8,Nat.pow_succ,Nat.add_assoc,Nat.mul_assoc,←Nat.mul_add,Nat.mod_add_div]
theorem A4s(L:List Nat)(s:Int):(F1 (L++[(s % (4294967296:Int)).toNat]):Int)+(4294967296:Int) ^ (L.length+1)*(s / (4294967296:Int))=F1 L+(4294967296:Int) ^ L.length*s:=by
 have d:0≤s % (4294967296:Int):=Int.emod_nonneg _ (by decide);have h1:((s % (4294967296:Int)).toNat:Int)=s % (4294967296:Int):=Int.toNat_of_nonneg d;have e:(((4294967296:Nat) ^ L.length:Nat):Int)=(4294967296:Int) ^ L.length:=Int.natCast_pow _ _;rw[t8,Int.natCast_add,Int.natCast_mul,h1,e,Int.pow_succ,Int.add_assoc,Int.mul_assoc,←Int.mul_add,Int.emod_add_mul_ediv]
theorem B0B(l:List Nat)(p d:Nat)(h:p<l.length):F1 (l.set p d)+4294967296 ^ p*l[p]=F1 l+4294967296 ^ p*d:=by
 have e1:l.set p d=l.take p++d::l.drop (p+1):=by rw[List.set_eq_take_append_cons_drop,if_pos h]
 have e2:F1 l=F1 (l.take p)+4294967296 ^ p*(l[p]+4294967296*F1 (l.drop (p+1))):=by
  conv=>lhs;rw[←D1J p l,j4,A2O l p h,D1G,Nat.min_eq_left (by omega)]
 rw[e1,j4,F1,D1G,Nat.min_eq_left (by omega),e2,Nat.mul_add,Nat.mul_add];omega
theorem B20{l:List Nat}(h:Dig l){p d:Nat}(e:d<4294967296):Dig (l.set p d):=fun x hx=>by
 rcases List.mem_or_eq_of_mem_set hx with g|rfl
 ·exact h x g
 ·exact e
theorem j5{l:List Nat}(h:Dig l){d:Nat}(e:d<4294967296):Dig (l++[d]):=fun x hx=>by
 rcases D0y.1 hx with g|g
 ·exact h x g
 ·rw[D0z]at g;rw[g];exact e
theorem J7{l:List Nat}(h:Dig l){i:Nat}(d:i<l.length):l[i]<4294967296:=h _ (D0m d)
theorem B4H(n:Nat):Dig (List.replicate n 0):=fun x hx=>by rw[(List.mem_replicate.1 hx).2];decide
def S3(L:List Nat)(n:Nat):List Nat:=L++List.replicate (n-L.length) 0
theorem A6B(L:List Nat)(n:Nat)(h:L.length≤n):(S3 L n).length=n:=by simp[S3];omega
theorem j6(L:List Nat)(n d:Nat)(h:L.length<n):(S3 L n).set L.length d=S3 (L++[d]) n:=by
 unfold S3;rw[List.set_append_right _ _ (D0s _),Nat.sub_self,D0e,D0g];have e:n-L.length=(n-(L.length+1))+1:=by omega
 rw[e,List.replicate_succ,List.set_cons_zero,D1M];rfl
theorem A6C(n:Nat):S3 [] n=List.replicate n 0:=by simp[S3]
theorem A4K(L:List Nat)(n:Nat)(h:L.length=n):S3 L n=L:=by simp[S3,h]
def A3T(L:List Nat)(n:Nat):List Nat:=List.replicate (n-L.length) 0++L
theorem B5t(L:List Nat)(n:Nat)(h:L.length≤n):(A3T L n).length=n:=by simp[A3T];omega
theorem B5u(L:List Nat)(n d k:Nat)(h:L.length+k+1=n):(A3T L n).set k d=A3T (d::L) n:=by
 unfold A3T;have e:n-L.length=k+1:=by omega
 have e2:n-(d::L).length=k:=by simp;omega
 rw[e,e2,List.replicate_succ',D1M,List.set_append_right _ _ (by simp)];simp
theorem B5v(n:Nat):A3T [] n=List.replicate n 0:=by simp[A3T]
theorem B4I(L:List Nat)(n:Nat)(h:L.length=n):A3T L n=L:=by simp[A3T,h]
theorem B5w{b r V A x:Nat}(hb:0<b)(h:V*b+r=A):((r*4294967296+x) / b+4294967296*V)*b+(r*4294967296+x) % b=x+4294967296*A:=by
 have e:=Nat.div_add_mod (r*4294967296+x) b;have e1:(r*4294967296+x) / b*b=b*((r*4294967296+x) / b):=Nat.mul_comm _ _;have e2:4294967296*A=4294967296*V*b+4294967296*r:=by rw[←h,Nat.mul_add,Nat.mul_assoc]
 have e3:r*4294967296=4294967296*r:=Nat.mul_comm _ _;rw[Nat.add_mul,e2];omega
theorem B88{b r V A:Nat}(hb:r<b)(h:V*b+r=A):A / b=V∧A % b=r:=by
 subst h;constructor
 ·rw[Nat.mul_comm,Nat.mul_add_div (by omega),Nat.div_eq_of_lt hb,Nat.add_zero]
 ·rw[Nat.mul_comm,Nat.mul_add_mod,D1Z hb]
theorem B5x(l:List Nat)(p i j s x y c T A:Nat)(h:p<l.length)(hp:p=i+j)(hv:F1 l+4294967296 ^ p*c=T+4294967296 ^ i*x*A)(hs:s=c+(x*y+l[p])):
  F1 (l.set p (s % 4294967296))+4294967296 ^ (p+1)*(s / 4294967296)=T+4294967296 ^ i*x*(A+4294967296 ^ j*y):=by
 have e1:=B0B l p (s % 4294967296) h;have e2:4294967296 ^ (p+1)*(s / 4294967296)=4294967296 ^ p*(4294967296*(s / 4294967296)):=by rw[Nat.pow_succ,Nat.mul_assoc]
 have e3:4294967296 ^ p*(s % 4294967296)+4294967296 ^ p*(4294967296*(s / 4294967296))=4294967296 ^ p*c+4294967296 ^ p*(x*y)+4294967296 ^ p*l[p]:=by
  rw[←Nat.mul_add,Nat.mod_add_div,hs,Nat.mul_add,Nat.mul_add,Nat.add_assoc]
 have d:4294967296 ^ i*x*(4294967296 ^ j*y)=4294967296 ^ p*(x*y):=by
  rw[hp,Nat.pow_add];simp only[Nat.mul_assoc,Nat.mul_left_comm,Nat.mul_comm]
 rw[Nat.mul_add,d,e2];omega
theorem B89(l:List Nat)(p c T X:Nat)(h:p<l.length)(d:l[p]=0)(hv:F1 l+4294967296 ^ p*c=T+X):F1 (l.set p c)=T+X:=by
 have e1:=B0B l p c h;rw[d,Nat.mul_zero]at e1;omega
theorem C24{x y o c:Nat}(hx:x<4294967296)(d:y<4294967296)(ho:o<4294967296)(hc:c<4294967296):c+(x*y+o)<18446744073709551616∧x*y<18446744073709551616:=by
 have:=Nat.mul_le_mul (show x≤4294967295 by omega) (show y≤4294967295 by omega);constructor<;>omega
end Go.Lin
namespace Go.Lexs
open Go.Av
def P8(c:Int):Bool:=decide (48≤c)&&decide (c≤57)
def B21(c:Int):Bool:=(decide (97≤c)&&decide (c≤122))||(decide (65≤c)&&decide (c≤90))
def B22(c:Int):Bool:=B21 c||P8 c||decide (c=95)
def C6n(c:Int):Bool:=decide (32≤c)&&decide (c≤126)&&decide (c≠34)&&decide (c≠92)
def C25(c:Int):Bool:=decide (c=32)||decide (c=9)||decide (c=10)||decide (c=13)
theorem T5(c:Int):P8 c=true↔48≤c∧c≤57:=by simp[P8]
def ofB(p:Int→Bool)(c:UInt8):Bool:=p (c.toNat:Int)
def C26(l:List UInt8):Bool:=l.all (ofB C6n)&&decide (l.length≤200)
theorem Z8(p:Int→Bool)(l:List UInt8)(k:Nat)(hk:k<l.length):(l.take (k+1)).all (ofB p)=((l.take k).all (ofB p)&&p (U5 l k)):=by
 rw[D0r hk,D1c];simp[hk,ofB,U5]
theorem o9(p:Int→Bool)(l:List UInt8)(k:Nat)(hk:k<l.length)(h:p (U5 l k)=false):l.all (ofB p)=false:=by
 rw[List.all_eq_false];exact⟨l[k],D0m hk,by simpa [hk,ofB,U5]using h⟩
def adv(p:Int×Int)(c:UInt8):Int×Int:=if c.toNat=10 then(p.1+1,1)else(p.1,p.2+1)
def place(l:List UInt8)(i:Nat):Int×Int:=(l.take i).foldl adv (1,1)
def A8a:List UInt8→Nat
 | []=>0
 |c::r=>if c.toNat=10 then 0 else A8a r+1
def B9A(l:List UInt8):Bool:=List.isPrefixOf [47,47] l
def B5y:Nat→List UInt8→Nat
 |0,_=>0
 |_+1,[]=>0
 |n+1,c::r=>if ofB C25 c then 1+B5y n r else if B9A (c::r)then A8a (c::r)+B5y n ((c::r).drop (A8a (c::r)))else 0
def sk(l:List UInt8):Nat:=B5y l.length l
def B5z(l:List UInt8)(i:Nat):Nat:=i+sk (l.drop i)
structure Tok where
 kind:Int
 text:List UInt8
 n:Int
 deriving DecidableEq
def A3U(p:Int→Bool):List UInt8→Nat
 | []=>0
 |c::r=>if ofB p c then A3U p r+1 else 0
def C6o:List UInt8→Nat:=List.foldl (fun n c=>10*n+(c.toNat-48)) 0
def B50(signs:List (List UInt8))(l:List UInt8):Nat:=signs.foldl (fun n s=>if n<s.length∧List.isPrefixOf s l=true then s.length else n) 0
def A6D:List UInt8→Nat
 | []=>0
 |c::r=>if c.toNat=34 then 0 else A6D r+1
def C81(signs:List (List UInt8))(l:List UInt8):Option (Tok×Nat):=
 if B21 (U5 l 0)then(if A3U B22 l≤40 then some (⟨1,l.take (A3U B22 l),0⟩,A3U B22 l)else none)
 else if P8 (U5 l 0)then
  (if C6o (l.take (A3U P8 l))≤2147483647∧¬(A3U P8 l<l.length∧B22 (U5 l (A3U P8 l))=true)then some (⟨2,[],C6o (l.take (A3U P8 l))⟩,A3U P8 l)else none)
 else if U5 l 0=34 then
  (if A6D (l.drop 1)<(l.drop 1).length∧C26 ((l.drop 1).take (A6D (l.drop 1)))=true then some (⟨3,(l.drop 1).take (A6D (l.drop 1)),0⟩,A6D (l.drop 1)+2)else none)
 else if B50 signs l=0 then none else some (⟨4,l.take (B50 signs l),0⟩,B50 signs l)
def C6p(signs:List (List UInt8))(l:List UInt8):Nat→Nat→List (Tok×Nat)→Except Nat (List (Tok×Nat))
 |0,_,acc=>.ok acc
 |f+1,i,acc=>if i<l.length then match C81 signs (l.drop i)with
  |none=>.error i
  |some (t,k)=>C6p signs l f (B5z l (i+k)) (acc++[(t,i)])
  else .ok acc
def cut(signs:List (List UInt8))(l:List UInt8):Except Nat (List (Tok×Nat)):=C6p signs l (l.length+1) (B5z l 0) []
end Go.Lexs
namespace Go.Lin
open Go Go.Av Go.Lexs
structure LTm where
 v:ByteArray
 c:Int
 deriving DecidableEq
instance :Inhabited LTm:=⟨⟨⟨#[]⟩,0⟩⟩
structure LinV where
 t:List LTm
 k:Int
 e:Bool
 deriving DecidableEq
instance :Inhabited LinV:=⟨⟨[],0,false⟩⟩
structure VlV where
 v:ByteArray
 n:Int
 deriving DecidableEq
instance :Inhabited VlV:=⟨⟨⟨#[]⟩,0⟩⟩
abbrev N7(t:LTm):List D:=[.str t.v,.int .i64 t.c]
abbrev E5(a:LinV):List D:=[.sl 2 (Rw N7 a.t),.int .i64 a.k,.bool a.e]
abbrev vlC(x:VlV):List D:=[.str x.v,.int .i64 x.n]
theorem B1r(a:LinV):E5 a= [.sl 2 (Rw N7 a.t),.int .i64 a.k,.bool a.e]:=rfl
def U6(n:Int):Prop:= -9223372036854775808≤n∧n≤9223372036854775807
structure V7(a:LinV):Prop where
 len:a.t.length≤5864062014639
 str: ∀t∈a.t,t.v.size≤140737488351232
 co: ∀t∈a.t,U6 t.c
 ko:U6 a.k
structure A7M(l:List VlV):Prop where
 len:l.length≤5864062014639
 str: ∀t∈l,t.v.size≤140737488351232
 no: ∀t∈l,U6 t.n
def Q4(c:Int):Bool:=decide (33≤c)&&decide (c≤126)&&decide (c≠43)&&decide (c≠45)&&decide (c≠42)&&decide (c≠60)&&decide (c≠62)&&decide (c≠61)
def G4(l:List UInt8):Bool:=decide (l≠[])&&decide (l.length≤200)&& !P8 (U5 l 0)&&l.all (ofB Q4)
theorem A2P(c:Int):Q4 c=true↔33≤c∧c≤126∧c≠43∧c≠45∧c≠42∧c≠60∧c≠62∧c≠61:=by simp[Q4,and_assoc]
theorem A3W{c:Int}(h: ¬(33≤c∧c≤126∧c≠43∧c≠45∧c≠42∧c≠60∧c≠62∧c≠61)):Q4 c=false:=by rw[←D1u,A2P];exact h
def V8(x y:ByteArray):Bool:=Op.bytesLess (B x) (B y)
theorem B51(x:List UInt8): ∀y,Op.bytesLess x y=true↔x<y:=by
 induction x with
 |nil=>intro y;cases y<;>simp[Op.bytesLess]
 |cons a x d=>
  intro y;cases y with
  |nil=>simp[Op.bytesLess]
  |cons b y=>
   simp only[Op.bytesLess,List.cons_lt_cons_iff,D1v,D0l,D0u,beq_iff_eq,d y]
theorem A3X(x y:ByteArray):V8 x y=true↔B x<B y:=B51 _ _
theorem q0(x:ByteArray):V8 x x=false:=by
 rw[←D1u,A3X];exact List.lt_irrefl _
theorem Z0{x y z:ByteArray}(h:V8 x y=true)(g:V8 y z=true):V8 x z=true:=by
 rw[A3X]at*;exact List.lt_trans h g
theorem B9B{x y:ByteArray}(h:V8 x y=false)(d:x≠y):V8 y x=true:=by
 rw[←D1u,A3X]at h;rw[A3X];have:B x≠B y:=fun e=>d (by rw[←S_B x,←S_B y,e]);by_cases g:B y<B x
 ·exact g
 ·exact absurd (List.le_antisymm (List.not_lt.1 g) (List.not_lt.1 h)) this
def J4(n most:Int):Bool:=decide (-most≤n)&&decide (n≤most)
def A1v(l:List LTm)(i:Nat):Bool:=
 G4 (B (l.getD i default).v)&&(decide (i=0)||V8 (l.getD (i-1) default).v (l.getD i default).v)&&decide ((l.getD i default).c≠0)&&J4 (l.getD i default).c 1048576
def V9(l:List LTm):Bool:=(List.range l.length).all (A1v l)
def validL(a:LinV):Bool:=V9 a.t&&decide (a.t.length≤12)&&J4 a.k 1099511627776
def up:List ByteArray→Bool
 | []=>true
 | [_]=>true
 |x::y::l=>V8 x y&&up (y::l)
def G8:List ByteArray→ByteArray→List ByteArray
 | [],s=>[s]
 |x::l,s=>if V8 x s=true then x::G8 l s else if x=s then x::l else s::x::l
def O8(l:List LinV):List ByteArray:=l.flatMap fun c=>c.t.map (·.v)
def A1w(l:List LinV):List ByteArray:=(O8 l).foldl G8 []
theorem A7N(l:List ByteArray)(s x:ByteArray):x∈G8 l s↔x∈l∨x=s:=by
 induction l with
 |nil=>simp[G8]
 |cons y l d=>
  unfold G8;split
  ·simp only[D00,d];constructor
   ·rintro(h|h|h)
    ·exact .inl (.inl h)
    ·exact .inl (.inr h)
    ·exact .inr h
   ·rintro((h|h)|h)
    ·exact .inl h
    ·exact .inr (.inl h)
    ·exact .inr (.inr h)
  ·split
   ·rename_i e;subst e;simp only[D00];constructor
    ·exact .inl
    ·rintro(h|h)
     ·exact h
     ·exact .inl h
   ·simp only[D00];constructor
    ·rintro(h|h)
     ·exact .inr h
     ·exact .inl h
    ·rintro(h|h)
     ·exact .inr h
     ·exact .inl h
theorem B52{l:List ByteArray}{s:ByteArray}(h:l.Pairwise fun x y=>V8 x y=true):(G8 l s).Pairwise fun x y=>V8 x y=true:=by
 induction l with
 |nil=>exact List.pairwise_singleton _ _
 |cons y l i=>
  unfold G8;split
  ·rename_i h1;refine List.Pairwise.cons (fun z d=>?_) (i h.of_cons);rcases(A7N _ _ _).1 d with g|rfl
   ·exact List.rel_of_pairwise_cons h g
   ·exact h1
  ·rename_i h1;split
   ·exact h
   ·rename_i j;have e:=B9B (D1u _ ▸ h1) j;refine List.Pairwise.cons (fun z d=>?_) h;rcases D00.1 d with rfl|d
    ·exact e
    ·exact Z0 e (List.rel_of_pairwise_cons h d)
theorem B0C(m:List ByteArray): ∀(l:List ByteArray),l.Pairwise (fun x y=>V8 x y=true)→(m.foldl G8 l).Pairwise fun x y=>V8 x y=true:=by
 induction m with
 |nil=>exact fun l h=>h
 |cons s m d=>exact fun l h=>d _ (B52 h)
theorem A7O(m:List ByteArray)(x:ByteArray): ∀(l:List ByteArray),x∈m.foldl G8 l↔x∈l∨x∈m:=by
 induction m with
 |nil=>intro l;simp
 |cons s m d=>
  intro l;rw[List.foldl_cons,d,A7N,D00,or_assoc]
theorem B0D(l:List LinV):(A1w l).Pairwise fun x y=>V8 x y=true:=B0C _ _ .nil
theorem A7P(l:List LinV)(x:ByteArray):x∈A1w l↔x∈O8 l:=by unfold A1w;rw[A7O];simp
theorem A6E: ∀{l m:List ByteArray},l.Pairwise (fun x y=>V8 x y=true)→m.Pairwise (fun x y=>V8 x y=true)→(∀x,x∈l↔x∈m)→l=m
 | [],[],_,_,_=>rfl
 | [],y::m,_,_,h=>absurd ((h y).2 (D0j ..)) (by simp)
 |x::l,[],_,_,h=>absurd ((h x).1 (D0j ..)) (by simp)
 |x::l,y::m,hl,hm,h=>by
  have e:x=y:=by
   rcases D00.1 ((h x).1 (D0j ..))with e|g
   ·exact e
   ·rcases D00.1 ((h y).2 (D0j ..))with e|i
    ·exact e.symm
    ·have a1:=List.rel_of_pairwise_cons hm g;have a2:=List.rel_of_pairwise_cons hl i;have:=Z0 a1 a2;rw[q0]at this;cases this
  subst e;refine congrArg (x:: ·) (A6E hl.of_cons hm.of_cons fun z=>?_);constructor
  ·intro d;rcases D00.1 ((h z).1 (D0q _ d))with rfl|g
   ·have:=List.rel_of_pairwise_cons hl d;rw[q0]at this;cases this
   ·exact g
  ·intro d;rcases D00.1 ((h z).2 (D0q _ d))with rfl|g
   ·have:=List.rel_of_pairwise_cons hm d;rw[q0]at this;cases this
   ·exact g
end Go.Lin
