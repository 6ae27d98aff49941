/- Part of the proof: what the last text builds on. No condition stands here. -/
import Derived.Test.YtibphjonmikciaaGreatDoorProg
import Derived.Test.YtibphjonmikciaaGreatDoorRows
import Derived.Test.YtibphjonmikciaaGreatDoorCards
import Derived.Test.YtibphjonmikciaaGreatDoorTie
import Derived.Test.YtibphjonmikciaaGreatDoorOb1
set_option linter.unusedSimpArgs false
set_option linter.unusedVariables false
section
namespace Go.Av
abbrev FEnv:=Nat→D
def FEnv.put(F:FEnv):Option Nat→D→FEnv
 |some t,d=>fun k=>if t=k then d else F k
 |none,_=>F
def FEnv.ev(F:FEnv):Operand→D
 | .tmp t=>F t
 | .const v=>D.ofValue v
 | .global g=>.glob g
 | .func f=>.fn (.func f) [] []
def T4:D→List Nat
 | .vec b _ _ _| .box b _=>[b]
 |_=>[]
def rdB:D→List Nat
 | .box b _| .el b _ _ _| .vec b _ _ _| .map b| .glob b=>[b]
 | .fn _ as_ bs=>(as_++bs).flatMap T4
 |_=>[]
theorem A1c{d:D}{b:Nat}(h:b∈T4 d):b∈rdB d:=by cases d<;>simp_all[T4,rdB]
structure Ef where
 rd:List Nat
 del:List Nat
 new:Option Obj
 at_:Option Nat
 val:Nat→D
def Ef.app(e:Ef)(b:Nat)(H:Heap):Heap:=match e.new with
 |none=>H.minus e.del
 |some o=>(H.minus e.del).set b o
def Ef.okB(e:Ef)(b:Nat)(U:Nat→Prop):Prop:=match e.new,e.at_ with
 |none,_=>True
 |some _,some c=>b=c
 |some _,none=>¬U b∨b∈e.del
def Ef.used(e:Ef)(b:Nat)(U:Nat→Prop):Nat→Prop:=match e.new with
 |none=>U
 |some _=>fun k=>U k∨k=b
def B03(o:Option Obj):Bool:=match o with
 |some o=>o.rw
 |none=>false
structure Bl where
 l:List Nat
 no:List Nat:=[]
 may:List Nat:=[]
def A3u(Bi Bj:Bl):Prop:=(∀b∈Bj.l,b∉Bj.no→b∈Bi.l∧b∉Bi.may)∧∀b∈Bi.l,b∉Bi.no→b∈Bj.l∧b∉Bj.may
structure A5Z(bl:Bl)(H:Heap)(e:Ef):Prop where
 rd: ∀b∈e.rd,(b∈bl.l∧H b≠none)∧b∉bl.no
 del: ∀b∈e.del,(e.at_=none→b∉bl.l∨b∈bl.may)∧B03 (H b)=true
 new: ∀o,e.new=some o→o.rw=true
 at_: ∀b,e.at_=some b→b∈e.del
def val(d:D)(rd:List Nat):Ef:=⟨rd,[],none,none,fun _=>d⟩
def A0i(f:Nat→D)(o:Obj):Ef:=⟨[],[],some o,none,f⟩
def R3(bl:List Nat)(l:List Nat):List Nat:=l.filter fun b=> !bl.contains b
def inB(bl:List Nat)(l:List Nat):List Nat:=l.filter fun b=>bl.contains b
def B04(P:Program)(bl:List Nat)(H:Heap)(t t':TypeId)(s x:D):Option Ef:=(G2 P t).bind fun T=>
 if 0<T.2.1∧(C7 P t'= .slice∨C7 P t'= .str)∧(F8 P T.1).map (·.length)=some T.2.1 then(M3 H T.2.1 x).bind fun xs=>match s with
  | .nilsl=>if xs.length*T.2.2≤140737488355328∧xs.length≤9223372036854775807∧xs.isEmpty=false then some ⟨inB bl (T4 x),R3 bl (T4 x),some (.vec T.2.1 xs),none,fun b=>.vec b T.2.1 0 xs.length⟩else none
  | .vec b sz' lo n=>match H b with
   |some (.vec sz'' es)=>if sz'=T.2.1∧sz''=T.2.1∧lo=0∧n≤es.length∧(n+xs.length)*T.2.2≤140737488355328∧n+xs.length≤9223372036854775807 then
     some ⟨inB bl (T4 x),b::R3 bl (T4 x),some (.vec T.2.1 (es.take n++xs)),none,fun b'=>.vec b' T.2.1 0 (n+xs.length)⟩else none
   |_=>none
  |_=>none else none
def bsE(P:Program)(t:TypeId)(len:Nat)(ps:List (Nat×D)):Option Ef:=(G2 P t).bind fun T=>if 0<T.2.1∧len*T.2.1≤16777216 then(F8 P T.1).bind fun z=>
 if z.length=T.2.1 then(A3n (List.replicate len z) ps).map fun es=>A0i (fun b=>.vec b T.2.1 0 len) (.vec T.2.1 es)else none else none
def msE(P:Program)(t:TypeId)(l c:D):Option Ef:=(G2 P t).bind fun T=>if 0<T.2.1 then(F8 P T.1).bind fun z=>match l,c with
 | .int _ n,.int _ m=>if z.length=T.2.1∧0≤n∧n≤m∧(T.2.2:Int)*m≤281474976710656∧m<9223372036854775808 then some (A0i (fun b=>.vec b T.2.1 0 n.toNat) (.vec T.2.1 (List.replicate n.toNat z)))else none
 |_,_=>none else none
theorem A4z{P:Program}{t:TypeId}{l c:D}{e:Ef}(h:msE P t l c=some e): ∃e' sz by_ z k n k' m,G2 P t=some (e',sz,by_)∧0<sz∧F8 P e'=some z∧z.length=sz∧l= .int k n∧c= .int k' m∧0≤n∧n≤m∧(by_:Int)*m≤281474976710656∧m<9223372036854775808∧
  e=A0i (fun b=>.vec b sz 0 n.toNat) (.vec sz (List.replicate n.toNat z)):=by
 unfold msE at h
 obtain⟨⟨e',sz,by_⟩,hT,h⟩:=C9b.1 h
 split at h
 ·rename_i h1
  obtain⟨z,hz,h⟩:=C9b.1 h
  split at h
  ·split at h
   ·rename_i h2
    cases h
    exact⟨e',sz,by_,z,_,_,_,_,hT,h1,hz,h2.1,rfl,rfl,h2.2.1,h2.2.2.1,h2.2.2.2.1,h2.2.2.2.2,rfl⟩
   ·cases h
  ·cases h
 ·cases h
theorem C1b{P:Program}{t:TypeId}{e' sz by_:Nat}{z:List D}{k k':IntKind}{n m:Int}(hT:G2 P t=some (e',sz,by_))(h1:0<sz)(hz:F8 P e'=some z)(h2:z.length=sz)(h3:0≤n)(h4:n≤m)(h5:(by_:Int)*m≤281474976710656)(h6:m<9223372036854775808):
  msE P t (.int k n) (.int k' m)=some (A0i (fun b=>.vec b sz 0 n.toNat) (.vec sz (List.replicate n.toNat z))):=by
 unfold msE
 rw[hT,C9t,if_pos h1,hz,C9t]
 simp only[]
 rw[if_pos ⟨h2,h3,h4,h5,h6⟩]
def j0(P:Program)(t:TypeId)(a x:D)(H:Heap):Option Ef:=(X2 P t a x H).bind fun H'=>match a with
 | .box b _| .el b _ _ _=>(H' b).map fun o=>⟨[],[b],some o,some b,fun _=>.undef⟩
 |_=>none
structure CR where
 new:Option Obj
 val:Nat→D
def CR.c(d:D):CR:=⟨none,fun _=>d⟩
def CR.f(c:CR):Nat→D:=match c.new with
 |none=>fun _=>c.val 0
 |some _=>c.val
def CR.mk'(f:Nat→D)(o:Obj):CR:=⟨some o,f⟩
def H7(P:Program)(c:CR)(bl:List Nat)(ev:Operand→D)(H:Heap)(op:Op):Option Ef:=match op with
 | .load t x=>(s8 P t (ev x) H).map fun d=>val d (rdB (ev x))
 | .lookup t m k ok=>(A05 P t (ev m) (ev k) ok H).map fun d=>val d (rdB (ev m))
 | .alloc t=>(F8 P t).map fun z=>A0i (fun b=>.box b 0) (.box z (A1V P t))
 | .box _ x=>if(ev x).cells.all D.one=true then some (A0i (fun b=>.box b 0) (.box (ev x).cells))else none
 | .buildSlice t len parts=>bsE P t len (parts.toList.map fun p=>(p.1,ev p.2))
 | .makeSlice t l c=>msE P t (ev l) (ev c)
 | .makeMap _ none=>some (A0i (fun b=>.map b) (.map []))
 | .store t a x=>j0 P t (ev a) (ev x) H
 | .call ⟨.builtin .append,args,ts⟩=>match ts.toList,args.toList with
  | [t,t'],[s,x]=>B04 P bl H t t' (ev s) (ev x)
  |_,_=>none
 | .call ⟨.value f,args,ts⟩=>match ev f with
  | .fn (.func _) first cap=>some ⟨inB bl ((first++args.toList.map ev++cap).flatMap T4),R3 bl ((first++args.toList.map ev++cap).flatMap T4),c.new,none,c.f⟩
  |_=>none
 |_=>none
def j4(P:Program)(c:CR)(bl:List Nat)(ev:Operand→D)(H:Heap)(op:Op):Option Ef:=if I5 P op= .pure then(J9 P ev op).map fun d=>val d []else H7 P c bl ev H op
def CR.post(c:CR)(H':Heap)(del:List Nat)(d:D)(H'':Heap):Prop:=match c.new with
 |none=>d=c.val 0∧(H'.minus del).Le H''
 |some o=>∃b,(H' b=none∨b∈del)∧d=c.val b∧((H'.minus del).set b o).Le H''
def B4r(P:Program)(g:Nat)(as_:List D)(H:Heap)(foot del:List Nat)(c:CR):Prop:=
 ∀H':Heap,(∀k cs,H k=some (.ro cs)→H' k=some (.ro cs))→(∀b∈foot,H' b=H b)→ACalls P g as_ H' (c.post H' del)
def N9(P:Program)(c:CR)(bl:List Nat)(ev:Operand→D)(H:Heap)(op:Op):Prop:=match op with
 | .call ⟨.value f,args,ts⟩=>match ev f with
  | .fn (.func g) first cap=>B4r P g (first++args.toList.map ev++cap) H ((first++args.toList.map ev++cap).flatMap T4) (R3 bl ((first++args.toList.map ev++cap).flatMap T4)) c
  |_=>False
 |_=>True
section
variable {P:Program} {c:CR} {bl:List Nat} {bb Bi Bj:Bl} {ev ev':Operand→D} {H H':Heap}
theorem j5{l:List Nat}{b:Nat}:b∈inB bl l↔b∈l∧b∈bl:=by simp[inB]
theorem R4{l:List Nat}{b:Nat}:b∈R3 bl l↔b∈l∧b∉bl:=by simp[R3]
theorem A2d{l:List Operand}(h: ∀x∈l,ev x=ev' x):l.map ev=l.map ev':=List.map_congr_left h
theorem A5a{l:List (Nat×Operand)}(h: ∀x∈l.map (·.2),ev x=ev' x):(l.map fun p=>(p.1,ev p.2))=l.map fun p=>(p.1,ev' p.2):=
 List.map_congr_left fun p hp=>by rw[h p.2 (D0N.2 ⟨p,hp,rfl⟩)]
theorem A1d{op:Op}(hc:I5 P op= .pure)(h: ∀x∈op.operands.toList,ev x=ev' x):J9 P ev op=J9 P ev' op:=by
 cases op
 case build t parts=>
  simp only[J9,A5a (ev:=ev) (ev':=ev') (l:=parts.toList) (fun x hx=>h x (by simpa [Op.operands]using hx))]
 case slice t x lo hi m=>
  have hx:=h x (by simp[Op.operands])
  have hlo:lo.map ev=lo.map ev':=by
   cases lo with
   |none=>rfl
   |some l=>simp only[Option.map_some,h l (by simp[Op.operands])]
  have hhi:hi.map ev=hi.map ev':=by
   cases hi with
   |none=>rfl
   |some l=>simp only[Option.map_some,h l (by simp[Op.operands])]
  cases m<;>simp only[J9,hx,hlo,hhi]
 case makeFunc fn first cap=>
  simp only[J9,A2d (l:=first.toList) (fun x hx=>h x (by simp[Op.operands];exact .inl (by simpa using hx))),A2d (l:=cap.toList) (fun x hx=>h x (by simp[Op.operands];exact .inr (by simpa using hx)))]
 case call cc=>
  obtain⟨callee,args,ats⟩:=cc
  cases callee with
  |value f=>simp[I5]at hc
  |invoke r m=>simp[I5]at hc
  |builtin b=>
   have ha: ∀x∈args.toList,ev x=ev' x:=fun x hx=>h x (by simp[Op.operands,Call.operands]at*;exact hx)
   cases b<;>try(simp[I5]at hc;done)
   case len=>
    simp only[J9]
    cases h1:ats[0]? with
    |none=>rfl
    |some t=>
     cases h2:args[0]? with
     |none=>rfl
     |some x=>simp only[ha x (by rw[C94];exact Array.mem_of_getElem? h2)]
   case cap=>
    simp only[J9]
    cases h1:ats[0]? with
    |none=>rfl
    |some t=>
     cases h2:args[0]? with
     |none=>rfl
     |some x=>simp only[Option.map_some,ha x (by rw[C94];exact Array.mem_of_getElem? h2)]
   case min=>simp only[J9,A2d ha]
   case max=>simp only[J9,A2d ha]
 all_goals first
  |rfl
  |(simp only[Op.operands,Array.toList_toArray,C9r,C9s,or_false,forall_eq_or_imp,forall_eq]at h;simp only[J9,h];done)
  |(simp only[Op.operands]at h;simp at h;simp only[J9,h];done)
  |(simp[I5]at hc;done)
theorem S4{op:Op}(hc:I5 P op= .pure):j4 P c bl ev H op=(J9 P ev op).map fun d=>val d []:=if_pos hc
theorem H9{op:Op}(hc:I5 P op≠ .pure):j4 P c bl ev H op=H7 P c bl ev H op:=if_neg hc
theorem t7{op:Op}(h: ∀x∈op.operands.toList,ev x=ev' x):j4 P c bl ev H op=j4 P c bl ev' H op:=by
 by_cases hc:I5 P op= .pure
 ·rw[S4 hc,S4 hc,A1d hc h]
 ·rw[H9 hc,H9 hc]
  cases op
  case load t x=>simp only[H7,h x (by simp[Op.operands])]
  case lookup t m k ok=>simp only[H7,h m (by simp[Op.operands]),h k (by simp[Op.operands])]
  case box t x=>simp only[H7,h x (by simp[Op.operands])]
  case makeSlice t l c=>simp only[H7,h l (by simp[Op.operands]),h c (by simp[Op.operands])]
  case buildSlice t n parts=>simp only[H7,A5a (ev:=ev) (ev':=ev') (l:=parts.toList) (fun x hx=>h x (by simpa [Op.operands]using hx))]
  case store t a x=>simp only[H7,h a (by simp[Op.operands]),h x (by simp[Op.operands])]
  case call cc=>
   obtain⟨callee,args,ats⟩:=cc
   cases callee with
   |value f=>
    have hf:=h f (by simp[Op.operands,Call.operands])
    have ha:=A2d (ev:=ev) (ev':=ev') (l:=args.toList) (fun x hx=>h x (by simp[Op.operands,Call.operands];exact .inr (by simpa using hx)))
    simp only[H7,hf,ha]
   |invoke r m=>simp[H7]
   |builtin b=>
    cases b
    case append=>
     unfold H7
     simp only
     split
     ·rename_i t t' s x h1 h2
      rw[h s (by simp[Op.operands,Call.operands,←C94,h2]),h x (by simp[Op.operands,Call.operands,←C94,h2])]
     ·rfl
    all_goals rfl
  case makeMap t r=>cases r<;>simp[H7]
  all_goals first
   |rfl
theorem j6{op:Op}(h: ∀x∈op.operands.toList,ev x=ev' x):N9 P c bl ev H op=N9 P c bl ev' H op:=by
 cases op
 case call cc=>
  obtain⟨callee,args,ats⟩:=cc
  cases callee with
  |value f=>
   have hf:=h f (by simp[Op.operands,Call.operands])
   have ha:=A2d (ev:=ev) (ev':=ev') (l:=args.toList) (fun x hx=>h x (by simp[Op.operands,Call.operands];exact .inr (by simpa using hx)))
   simp only[N9,hf,ha]
  |_=>rfl
 all_goals rfl
def B19(ev:Operand→D)(op:Op):List Nat:=op.operands.toList.flatMap fun x=>rdB (ev x)
theorem M6{op:Op}{x:Operand}{b:Nat}(hx:x∈op.operands.toList)(hb:b∈rdB (ev x)):b∈B19 ev op:=List.mem_flatMap.2 ⟨x,hx,hb⟩
theorem A9M{sz:Nat}{x:D}{es:List (List D)}(h:M3 H sz x=some es)(hH: ∀b∈T4 x,H' b=H b):M3 H' sz x=some es:=by
 cases x<;>simp only[M3]at h⊢ <;>try exact h
 rename_i b s lo n
 rw[hH b (by simp[T4])];exact h
theorem A6s{x:D}{cs:List D}(h:A3m H x=some cs)(hH: ∀b∈rdB x,H' b=H b):A3m H' x=some cs:=by
 cases x<;>simp only[A3m]at h⊢ <;>try exact h
 all_goals (rw[hH _ (by simp[rdB])];exact h)
theorem B3P{x:D}{kvs:List (D×D)}(h:W5 H x=some kvs)(hH: ∀b∈rdB x,H' b=H b):W5 H' x=some kvs:=by
 cases x<;>simp only[W5]at h⊢ <;>try exact h
 all_goals (rw[hH _ (by simp[rdB])];exact h)
theorem A2e{op:Op}{e:Ef}(h:j4 P c bl ev H op=some e)(hH: ∀b,b∈e.rd∨b∈e.del→H' b=H b):j4 P c bl ev H' op=some e:=by
  by_cases hc:I5 P op= .pure
  · rw[S4 hc]at h⊢;exact h
  · rw[H9 hc]at h⊢
    cases op
    case load t x=>
      simp only[H7,C9Y]at h⊢
      obtain⟨d,hd,rfl⟩:=h
      refine⟨d,?_,rfl⟩
      unfold s8 at hd⊢
      obtain⟨s,hs,hd⟩:=C9b.1 hd
      obtain⟨cs,hcs,hd⟩:=C9b.1 hd
      rw[hs,C9t,A6s hcs (fun b hb=>hH b (.inl hb))]
      exact hd
    case lookup t m k ok=>
      simp only[H7,C9Y]at h⊢
      obtain⟨d,hd,rfl⟩:=h
      refine⟨d,?_,rfl⟩
      unfold A05 at hd⊢
      obtain⟨T,hT,hd⟩:=C9b.1 hd
      rw[hT,C9t]
      split at hd
      · rename_i hk
        rw[if_pos hk]
        obtain⟨z,hz,hd⟩:=C9b.1 hd
        obtain⟨kvs,hkvs,hd⟩:=C9b.1 hd
        rw[hz,C9t,B3P hkvs (fun b hb=>hH b (.inl hb))]
        exact hd
      · cases hd
    case alloc t=>exact h
    case box t x=>exact h
    case makeSlice t l c=>exact h
    case buildSlice t n parts=>exact h
    case store t a x=>
      simp only[H7,j0]at h⊢
      obtain⟨H1,hs,h⟩:=C9b.1 h
      have key: ∀b,(ev a= .box b 0∨True)→rdB (ev a)= [b]→H' b=H b→∃H2,X2 P t (ev a) (ev x) H'=some H2∧H2 b=H1 b:=by
        intro b _ hrb hb
        unfold X2 at hs⊢
        split at hs
        · rename_i hcond
          rw[if_pos hcond]
          split at hs
          · rename_i b' off heq
            have : b' = b := by have:rdB (ev a)= [b']:=by rw[heq];rfl
                                rw[hrb]at this;simpa using this.symm
            subst this
            rw[hb]
            split at hs
            · rename_i cs Z hcs
              split at hs
              · rename_i hle
                cases hs
                refine⟨_,by rw[if_pos hle],?_⟩
                simp[Heap.set]
              · cases hs
            · cases hs
          · rename_i b' sz i off heq
            have : b' = b := by have:rdB (ev a)= [b']:=by rw[heq];rfl
                                rw[hrb]at this;simpa using this.symm
            subst this
            rw[hb]
            split at hs
            · rename_i sz' es hcs
              split at hs
              · rename_i hle
                cases hs
                refine⟨_,by rw[if_pos hle],?_⟩
                simp[Heap.set]
              · cases hs
            · cases hs
          · cases hs
        · cases hs
      cases ha:ev a with
      |box b off=>
        rw[ha]at h
        simp only at h
        obtain⟨o,ho,rfl⟩:=C9Y.1 h
        obtain⟨H2,h2,h3⟩:=key b (.inr trivial) (by rw[ha];rfl) (hH b (.inr (by simp)))
        rw[ha]at h2
        rw[h2,C9t]
        simp only[h3,ho,Option.map_some]
      |el b sz i off=>
        rw[ha]at h
        simp only at h
        obtain⟨o,ho,rfl⟩:=C9Y.1 h
        obtain⟨H2,h2,h3⟩:=key b (.inr trivial) (by rw[ha];rfl) (hH b (.inr (by simp)))
        rw[ha]at h2
        rw[h2,C9t]
        simp only[h3,ho,Option.map_some]
      |_=>rw[ha]at h;simp at h
    case call cc=>
      obtain⟨callee,args,ats⟩:=cc
      cases callee with
      |value f=>exact h
      |invoke r m=>simp[H7]at h
      |builtin b=>
        cases b
        case append=>
          unfold H7 at h⊢
          simp only at h⊢
          split at h
          · rename_i t t' s x h1 h2
            unfold B04 at h⊢
            obtain⟨T,hT,h⟩:=C9b.1 h
            rw[hT,C9t]
            split at h
            · rename_i hcond
              rw[if_pos hcond]
              obtain⟨xs,hxs,h⟩:=C9b.1 h
              have hx: ∀b,b∈T4 (ev x)→(b∈e.rd∨b∈e.del)→H' b=H b:=fun b _ hb=>hH b hb
              have hmem: ∀b∈T4 (ev x),b∈e.rd∨b∈e.del:=by
                intro b hb
                split at h
                · split at h
                  · cases h
                    by_cases hbl:b∈bl
                    · exact .inl (j5.2 ⟨hb,hbl⟩)
                    · exact .inr (R4.2 ⟨hb,hbl⟩)
                  · cases h
                · split at h
                  · split at h
                    · cases h
                      by_cases hbl:b∈bl
                      · exact .inl (j5.2 ⟨hb,hbl⟩)
                      · exact .inr (C9h _ (R4.2 ⟨hb,hbl⟩))
                    · cases h
                  · cases h
                · cases h
              rw[A9M hxs (fun b hb=>hH b (hmem b hb)),C9t]
              cases hs:ev s with
              |vec b sz' lo n=>
                rw[hs]at h
                simp only at h⊢
                have hb:H' b=H b:=by
                  split at h
                  · split at h
                    · cases h;exact hH b (.inr (by simp))
                    · cases h
                  · cases h
                rw[hb];exact h
              |_=>rw[hs]at h;exact h
            · cases h
          · cases h
        all_goals cases h
    case makeMap t r=>
      cases r with
      |none=>exact h
      |some r=>simp[H7]at h
    all_goals cases h
theorem A29{op:Op}{e:Ef}(h:N9 P c bl ev H op)(hr:j4 P c bl ev H op=some e)(hro: ∀k cs,H' k=some (.ro cs)→H k=some (.ro cs))(hro': ∀k cs,H k=some (.ro cs)→H' k=some (.ro cs))(hH: ∀b,b∈e.rd∨b∈e.del→H' b=H b):N9 P c bl ev H' op:=by
 cases op
 case call cc=>
  obtain⟨callee,args,ats⟩:=cc
  cases callee with
  |value f=>
   rw[H9 (by simp[I5])]at hr
   simp only[N9,H7]at h hr⊢
   split at h
   ·rename_i g first cap hf
    rw[hf]at hr
    simp only[C91]at hr
    subst hr
    intro H2 h1 h2
    refine h H2 (fun k cs hk=>h1 k cs (hro' k cs hk)) (fun b hb=>?_)
    rw[h2 b hb]
    by_cases hbl:b∈bl
    ·exact hH b (.inl (j5.2 ⟨hb,hbl⟩))
    ·exact hH b (.inr (R4.2 ⟨hb,hbl⟩))
   ·exact h
  |_=>exact h
 all_goals exact h
theorem B3Q{op:Op}{e:Ef}(h:j4 P c bl ev H op=some e): ∀b,b∈e.rd∨b∈e.del→b∈B19 ev op:=by
 by_cases hc:I5 P op= .pure
 ·rw[S4 hc]at h
  obtain⟨d,_,rfl⟩:=C9Y.1 h
  intro b hb
  simp[val]at hb
 ·rw[H9 hc]at h
  cases op
  case load t x=>
   simp only[H7,C9Y]at h
   obtain⟨d,hd,rfl⟩:=h
   intro b hb
   simp[val]at hb
   exact M6 (x:=x) (by simp[Op.operands]) hb
  case lookup t m k ok=>
   simp only[H7,C9Y]at h
   obtain⟨d,hd,rfl⟩:=h
   intro b hb
   simp[val]at hb
   exact M6 (x:=m) (by simp[Op.operands]) hb
  case alloc t=>
   simp only[H7,C9Y]at h
   obtain⟨d,hd,rfl⟩:=h
   intro b hb;simp[A0i]at hb
  case box t x=>
   simp only[H7]at h
   split at h
   ·cases h;intro b hb;simp[A0i]at hb
   ·cases h
  case makeSlice t l c=>
   simp only[H7]at h
   obtain⟨_,_,_,_,_,_,_,_,_,_,_,_,_,_,_,_,_,_,rfl⟩:=A4z h
   intro b hb;simp[A0i]at hb
  case buildSlice t n parts=>
   simp only[H7,bsE]at h
   obtain⟨T,hT,h⟩:=C9b.1 h
   split at h
   ·obtain⟨z,hz,h⟩:=C9b.1 h
    split at h
    ·obtain⟨es,hes,rfl⟩:=C9Y.1 h
     intro b hb;simp[A0i]at hb
    ·cases h
   ·cases h
  case store t a x=>
   simp only[H7,j0]at h
   obtain⟨H1,hs,h⟩:=C9b.1 h
   cases ha:ev a with
   |box b off=>
    rw[ha]at h
    simp only at h
    obtain⟨o,ho,rfl⟩:=C9Y.1 h
    intro k hk
    simp at hk
    subst hk
    exact M6 (x:=a) (by simp[Op.operands]) (by rw[ha];simp[rdB])
   |el b sz i off=>
    rw[ha]at h
    simp only at h
    obtain⟨o,ho,rfl⟩:=C9Y.1 h
    intro k hk
    simp at hk
    subst hk
    exact M6 (x:=a) (by simp[Op.operands]) (by rw[ha];simp[rdB])
   |_=>rw[ha]at h;simp at h
  case call cc=>
   obtain⟨callee,args,ats⟩:=cc
   cases callee with
   |value f=>
    simp only[H7]at h
    split at h
    ·rename_i g first cap hf
     cases h
     intro b hb
     have hb':b∈(first++args.toList.map ev++cap).flatMap T4:=by
      rcases hb with hb|hb
      ·exact(j5.1 hb).1
      ·exact(R4.1 hb).1
     obtain⟨d,hd,hbd⟩:=List.mem_flatMap.1 hb'
     simp only[C9p,D0N]at hd
     rcases hd with(hd|⟨x,hx,rfl⟩)|hd
     ·exact M6 (x:=f) (by simp[Op.operands,Call.operands]) (by rw[hf];exact List.mem_flatMap.2 ⟨d,by simp[hd],hbd⟩)
     ·exact M6 (x:=x) (by simp[Op.operands,Call.operands];exact .inr (by simpa using hx)) (A1c hbd)
     ·exact M6 (x:=f) (by simp[Op.operands,Call.operands]) (by rw[hf];exact List.mem_flatMap.2 ⟨d,by simp[hd],hbd⟩)
    ·cases h
   |invoke r m=>simp[H7]at h
   |builtin b=>
    cases b
    case append=>
     unfold H7 at h
     simp only at h
     split at h
     ·rename_i t t' s x h1 h2
      have hs:s∈(Op.call ⟨.builtin .append,args,ats⟩).operands.toList:=by simp[Op.operands,Call.operands,←C94,h2]
      have hx:x∈(Op.call ⟨.builtin .append,args,ats⟩).operands.toList:=by simp[Op.operands,Call.operands,←C94,h2]
      unfold B04 at h
      obtain⟨T,hT,h⟩:=C9b.1 h
      split at h
      ·obtain⟨xs,hxs,h⟩:=C9b.1 h
       split at h
       ·split at h
        ·cases h
         intro b hb
         rcases hb with hb|hb
         ·exact M6 hx (A1c (j5.1 hb).1)
         ·exact M6 hx (A1c (R4.1 hb).1)
        ·cases h
       ·rename_i b' sz' lo n hsv
        split at h
        ·split at h
         ·cases h
          intro b hb
          rcases hb with hb|hb
          ·exact M6 hx (A1c (j5.1 hb).1)
          ·rcases C9r.1 hb with rfl|hb
           ·exact M6 hs (by rw[hsv];simp[rdB])
           ·exact M6 hx (A1c (R4.1 hb).1)
         ·cases h
        ·cases h
       ·cases h
      ·cases h
     ·cases h
    all_goals cases h
  case makeMap t r=>
   cases r with
   |none=>simp only[H7,C91]at h;subst h;intro b hb;simp[A0i]at hb
   |some r=>simp[H7]at h
  all_goals cases h
abbrev Kf:=FEnv→Heap→(Nat→Prop)→Prop
def G9(gs:List (Option Nat))(j:Nat):Option Nat:=(gs[j]?).getD none
def A1e(E:Env)(s:Option Nat)(want:Bool)(run skip:Env→Prop):Prop:=match s with
 |none=>skip E
 |some s=>(E.get s= .tuple []∧skip E)∨∃b,E.get s= .bool b∧(b=want→run ((s,.bool want)::E))∧(b= !want→skip ((s,.bool (!want))::E))
def A1f(gs:List (Option Nat))(F:FEnv):Option (Nat×Bool)→Option Bool
 |none=>some true
 |some (j,want)=>match G9 gs j with
  |none=>some false
  |some s=>match F s with
   | .tuple []=>some false
   | .bool b=>some (b==want)
   |_=>none
def A0F(P:Program)(c:CR)(bl:Bl)(o:Oper)(K:Kf):Kf:=fun F H U=>∃e,j4 P c bl.l F.ev H o.op=some e∧A5Z bl H e∧N9 P c bl.l F.ev H o.op∧
 ∀b,e.okB b U→K (F.put o.dst (e.val b)) (e.app b H) (e.used b U)
def A0G(P:Program)(gs:List (Option Nat))(c:CR)(bl:Bl)(o:Oper)(K:Kf):Kf:=fun F H U=>(A1f gs F o.guard=some true∧A0F P c bl o K F H U)∨(A1f gs F o.guard=some false∧K (F.put o.dst (.tuple [])) H U)
theorem A08{o:Oper}{K K':Kf}{F:FEnv}{H:Heap}{U:Nat→Prop}(h: ∀v H U,K (F.put o.dst v) H U→K' (F.put o.dst v) H U)(hk:A0F P c bb o K F H U):A0F P c bb o K' F H U:=
 let ⟨e,h2,h3,h4,h5⟩:=hk;⟨e,h2,h3,h4,fun b hb=>h _ _ _ (h5 b hb)⟩
theorem A09{gs:List (Option Nat)}{o:Oper}{K K':Kf}(h: ∀F H U,K F H U→K' F H U){F:FEnv}{H:Heap}{U:Nat→Prop}(hk:A0G P gs c bb o K F H U):A0G P gs c bb o K' F H U:=
 hk.imp (fun hk=>⟨hk.1,A08 (fun _ _ _=>h _ _ _) hk.2⟩) fun hk=>⟨hk.1,h _ _ _ hk.2⟩
theorem C1c{F:FEnv}{dst:Option Tmp}{d:D}{x:Operand}(h: ∀t,dst=some t→x≠ .tmp t):(F.put dst d).ev x=F.ev x:=by
 cases dst with
 |none=>rfl
 |some t=>
  cases x with
  |tmp u=>
   have:t≠u:=fun e=>h t rfl (by rw[e])
   simp[FEnv.ev,FEnv.put,this]
  |_=>rfl
theorem P5{F:FEnv}{ops:Array Oper}{o:Oper}{dst:Option Tmp}{d:D}(h: ∀t,dst=some t→t∉o.looksAt ops): ∀x∈o.op.operands.toList,(F.put dst d).ev x=F.ev x:=fun x hx=>
 C1c fun t ht hxt=>h t ht (by subst hxt;exact List.mem_append_left _ (List.mem_filterMap.2 ⟨.tmp t,hx,rfl⟩))
theorem A1g{F:FEnv}{x y:Option Tmp}{d d':D}(h: ∀t,x=some t→y≠some t):(F.put x d).put y d'=(F.put y d').put x d:=by
 funext k
 cases x with
 |none=>rfl
 |some t=>
  cases y with
  |none=>rfl
  |some u=>
   have:t≠u:=fun e=>h t rfl (by rw[e])
   simp only[FEnv.put]
   by_cases h1:t=k<;>by_cases h2:u=k<;>simp[h1,h2]
   exact absurd (h1.trans h2.symm) this
structure Dom(H:Heap)(U:Nat→Prop):Prop where
 dom: ∀b,H b≠none→U b
 fin: ∀l:List Nat,∃b,¬U b∧b∉l
theorem Dom.app{H:Heap}{U:Nat→Prop}(h:Dom H U){e:Ef}{b:Nat}(hb:e.okB b U):Dom (e.app b H) (e.used b U):=by
 have hm: ∀k,(H.minus e.del) k≠none→U k:=fun k hk=>h.dom k fun h0=>hk (by unfold Heap.minus;split;rfl;exact h0)
 unfold Ef.app Ef.used
 cases hn:e.new with
 |none=>exact⟨hm,h.fin⟩
 |some o=>
  refine⟨fun k hk=>?_,fun l=>?_⟩
  ·by_cases hkb:k=b
   ·exact .inr hkb
   ·simp only[Heap.set,if_neg hkb]at hk;exact .inl (hm k hk)
  ·obtain⟨x,h1,h2⟩:=h.fin (b::l)
   simp only[C9r,not_or]at h2
   exact⟨x,fun hx=>hx.elim h1 h2.1,h2.2⟩
theorem A17{e:Ef}{b k:Nat}{H:Heap}(hd:k∉e.del)(hb:e.new≠none→k≠b):e.app b H k=H k:=by
 unfold Ef.app
 cases hn:e.new with
 |none=>simp[Heap.minus,hd]
 |some o=>simp[Heap.set,Heap.minus,hd,hb (by rw[hn];simp)]
theorem B4s{e:Ef}{b k:Nat}{H:Heap}{cs:List D}(h:A5Z bb H e)(hk:e.app b H k=some (.ro cs)):H k=some (.ro cs):=by
 unfold Ef.app at hk
 have hm:(H.minus e.del) k=some (.ro cs)→H k=some (.ro cs):=fun hk=>by
  unfold Heap.minus at hk
  split at hk
  ·cases hk
  ·exact hk
 cases hn:e.new with
 |none=>rw[hn]at hk;exact hm hk
 |some o=>
  rw[hn]at hk
  simp only[Heap.set]at hk
  split at hk
  ·cases hk
   have:=h.new _ hn
   simp[Obj.rw]at this
  ·exact hm hk
theorem B2A{e:Ef}{b k:Nat}{H:Heap}{U:Nat→Prop}{cs:List D}(h:A5Z bb H e)(hU: ∀b,H b≠none→U b)(hb:e.okB b U)(hk:H k=some (.ro cs)):e.app b H k=some (.ro cs):=by
 have hd:k∉e.del:=fun hd=>by have:=(h.del k hd).2;rw[hk]at this;simp[B03,Obj.rw]at this
 rw[A17 hd fun hn he=>?_]
 ·exact hk
 ·subst he
  unfold Ef.okB at hb
  cases hnew:e.new with
  |none=>exact hn hnew
  |some o=>
   rw[hnew]at hb
   cases hat:e.at_ with
   |none=>
    rw[hat]at hb
    rcases hb with hb|hb
    ·exact hb (hU k (by rw[hk];simp))
    ·exact hd hb
   |some c=>
    rw[hat]at hb
    subst hb
    exact hd (h.at_ _ hat)
theorem B4t{i j:Ef}{bi bj:Nat}{H:Heap}(h1: ∀b∈i.del,b∉j.del)(h2:i.new≠none→j.new≠none→bi≠bj)(h3:i.new≠none→bi∉j.del)(h4:j.new≠none→bj∉i.del):j.app bj (i.app bi H)=i.app bi (j.app bj H):=by
 funext k
 unfold Ef.app
 cases hi:i.new with
 |none=>
  cases hj:j.new with
  |none=>simp only[Heap.minus];by_cases x:k∈i.del<;>by_cases y:k∈j.del<;>simp[x,y]
  |some o=>
   rw[hj]at h4
   have h4:=h4 (by simp)
   simp only[Heap.minus,Heap.set]
   by_cases z:k=bj
   ·subst z;simp[h4]
   ·by_cases x:k∈i.del<;>by_cases y:k∈j.del<;>simp[x,y,z]
 |some oi=>
  rw[hi]at h2 h3
  have h3:=h3 (by simp)
  cases hj:j.new with
  |none=>
   simp only[Heap.minus,Heap.set]
   by_cases z:k=bi
   ·subst z;simp[h3]
   ·by_cases x:k∈i.del<;>by_cases y:k∈j.del<;>simp[x,y,z]
  |some o=>
   rw[hj]at h2 h4
   have h4:=h4 (by simp)
   have h2:=h2 (by simp) (by simp)
   simp only[Heap.minus,Heap.set]
   by_cases z:k=bi
   ·subst z;simp[h3,h2]
   ·by_cases z':k=bj
    ·subst z';simp[h4,z]
    ·by_cases x:k∈i.del<;>by_cases y:k∈j.del<;>simp[x,y,z,z']
theorem A9N{e:Ef}{b k:Nat}{U:Nat→Prop}(h:U k):e.used b U k:=by
 unfold Ef.used
 cases e.new with
 |none=>exact h
 |some o=>exact .inl h
theorem B4u{e:Ef}{b:Nat}{U:Nat→Prop}(h:e.new≠none):e.used b U b:=by
 unfold Ef.used
 cases hn:e.new with
 |none=>exact absurd hn h
 |some o=>exact .inr rfl
theorem used_inv{e:Ef}{b k:Nat}{U:Nat→Prop}(h:e.used b U k):U k∨(e.new≠none∧k=b):=by
 unfold Ef.used at h
 cases hn:e.new with
 |none=>rw[hn]at h;exact .inl h
 |some o=>rw[hn]at h;exact h.imp id fun h=>⟨by simp,h⟩
theorem B3R{i j:Ef}{bi bj:Nat}{U:Nat→Prop}:j.used bj (i.used bi U)=i.used bi (j.used bj U):=by
 unfold Ef.used
 cases i.new<;>cases j.new<;>try rfl
 funext k
 apply propext
 simp only[or_assoc,or_comm (a:=k=bi)]
def A0j(P:Program)(oi oj:Op):Bool:=(!A01 oi||I5 P oj== .pure)&&(!A01 oj||I5 P oi== .pure)
theorem A9O{o:Op}{e:Ef}{ev:Operand→D}{H:Heap}(h:j4 P c bl ev H o=some e)(hs:A01 o=false):e.at_=none:=by
 by_cases hc:I5 P o= .pure
 ·rw[S4 hc]at h
  obtain⟨d,_,rfl⟩:=C9Y.1 h
  rfl
 ·rw[H9 hc]at h
  cases o
  case load t x=>simp only[H7,C9Y]at h;obtain⟨d,_,rfl⟩:=h;rfl
  case lookup t m k ok=>simp only[H7,C9Y]at h;obtain⟨d,_,rfl⟩:=h;rfl
  case alloc t=>simp only[H7,C9Y]at h;obtain⟨d,_,rfl⟩:=h;rfl
  case box t x=>simp only[H7]at h;split at h<;>cases h;rfl
  case makeSlice t l c=>
   simp only[H7]at h
   obtain⟨_,_,_,_,_,_,_,_,_,_,_,_,_,_,_,_,_,_,rfl⟩:=A4z h
   rfl
  case buildSlice t n parts=>
   simp only[H7,bsE]at h
   obtain⟨T,hT,h⟩:=C9b.1 h
   split at h
   ·obtain⟨z,hz,h⟩:=C9b.1 h
    split at h
    ·obtain⟨es,hes,rfl⟩:=C9Y.1 h;rfl
    ·cases h
   ·cases h
  case store t a x=>simp[A01]at hs
  case call cc=>
   obtain⟨callee,args,ats⟩:=cc
   cases callee with
   |value f=>
    simp only[H7]at h
    split at h<;>cases h;rfl
   |invoke r m=>simp[H7]at h
   |builtin b=>
    cases b
    case append=>
     unfold H7 at h
     simp only at h
     split at h
     ·unfold B04 at h
      obtain⟨T,hT,h⟩:=C9b.1 h
      split at h
      ·obtain⟨xs,hxs,h⟩:=C9b.1 h
       split at h
       ·split at h<;>cases h;rfl
       ·split at h
        ·split at h<;>cases h;rfl
        ·cases h
       ·cases h
      ·cases h
     ·cases h
    all_goals cases h
  case makeMap t r=>
   cases r with
   |none=>simp only[H7,C91]at h;subst h;rfl
   |some r=>simp[H7]at h
  all_goals cases h
theorem A18{o:Op}{e:Ef}{ev:Operand→D}{H:Heap}(h:j4 P c bl ev H o=some e)(hc:I5 P o= .pure):e.rd= []∧e.del= []∧e.new=none:=by
 rw[S4 hc]at h
 obtain⟨d,_,rfl⟩:=C9Y.1 h
 exact⟨rfl,rfl,rfl⟩
theorem B05{ops:Array Oper}{oi oj:Oper}{ci cj:CR}{K:Kf}{F:FEnv}{H:Heap}{U:Nat→Prop}(hap:oi.apart ops oj=true)(hcalm:A0j P oi.op oj.op=true)(hB:A3u Bi Bj)(hD:Dom H U)
  (h:A0F P ci Bi oi (A0F P cj Bj oj K) F H U):A0F P cj Bj oj (A0F P ci Bi oi K) F H U:=by
 obtain⟨hB1,hB2⟩:=hB
 obtain⟨a1,a2,a3⟩:=Oper.apart_spec hap
 obtain⟨ei,ri,oki,ci_ok,hi⟩:=h
 simp only[A0j,C9c,D0m,Bool.not_eq_true',beq_iff_eq]at hcalm
 --a name for the first one's block that the second one does not name
 obtain⟨b0,hb0,hb0f⟩: ∃b0,ei.okB b0 U∧(ei.new≠none→ei.at_=none→b0∉B19 F.ev oj.op∧¬U b0):=by
  obtain⟨x,hx1,hx2⟩:=hD.fin (B19 F.ev oj.op)
  cases hn:ei.new with
  |none=>exact⟨x,by unfold Ef.okB;rw[hn];trivial,fun h=>absurd rfl h⟩
  |some o=>
   cases ha:ei.at_ with
   |none=>exact⟨x,by unfold Ef.okB;rw[hn,ha];exact .inl hx1,fun _ _=>⟨hx2,hx1⟩⟩
   |some y=>exact⟨y,by unfold Ef.okB;rw[hn,ha],fun _ h=>by cases h⟩
 have sti: ∀y,ei.at_=some y→I5 P oj.op= .pure:=fun y hy=>by
  rcases hcalm.1 with h|h
  ·rw[A9O ri h]at hy;cases hy
  ·exact h
 obtain⟨ej,rj,okj,cj_ok,_⟩:=hi b0 hb0
 have rj0:j4 P cj Bj.l F.ev (ei.app b0 H) oj.op=some ej:=by rw[←rj];exact(t7 (P5 a1)).symm
 have cj0:N9 P cj Bj.l F.ev (ei.app b0 H) oj.op:=by rw[←j6 (P5 (F:=F) (d:=ei.val b0) a1)];exact cj_ok
 have stj: ∀y,ej.at_=some y→I5 P oi.op= .pure:=fun y hy=>by
  rcases hcalm.2 with h|h
  ·rw[A9O rj0 h]at hy;cases hy
  ·exact h
 --what the second one names,the first one lets be
 have nb0: ∀b,b∈ej.rd∨b∈ej.del→ei.new≠none→b≠b0:=fun b hb hn he=>by
  subst he
  cases ha:ei.at_ with
  |none=>exact(hb0f hn ha).1 (B3Q rj0 b hb)
  |some y=>
   obtain⟨e1,e2,_⟩:=A18 rj0 (sti y ha)
   rw[e1,e2]at hb
   simp at hb
 have djd: ∀b∈ej.del,b∉ei.del:=fun b hb hbi=>by
  have h1:=(okj.del b hb).2
  have h2:ei.app b0 H b=none:=by
   unfold Ef.app
   cases hn:ei.new with
   |none=>simp[Heap.minus,hbi]
   |some o=>simp[Heap.set,Heap.minus,hbi,nb0 b (.inr hb) (by rw[hn];simp)]
  rw[h2]at h1
  cases h1
 have djr: ∀b∈ej.rd,b∉ei.del:=fun b hb hbi=>by
  cases ha:ei.at_ with
  |none=>
   have g2:=hB1 b (okj.rd b hb).1.1 (okj.rd b hb).2
   rcases(oki.del b hbi).1 ha with g|g
   ·exact g g2.1
   ·exact g2.2 g
  |some y=>rw[(A18 rj0 (sti y ha)).1]at hb;cases hb
 have same0: ∀b,b∈ej.rd∨b∈ej.del→ei.app b0 H b=H b:=fun b hb=>A17 (hb.elim (djr b) (djd b)) (nb0 b hb)
 have rjH:j4 P cj Bj.l F.ev H oj.op=some ej:=A2e rj0 fun b hb=>(same0 b hb).symm
 have okjH:A5Z Bj H ej:=⟨fun b hb=>⟨⟨(okj.rd b hb).1.1,by rw[←same0 b (.inl hb)];exact(okj.rd b hb).1.2⟩,(okj.rd b hb).2⟩,fun b hb=>⟨(okj.del b hb).1,by rw[←same0 b (.inr hb)];exact(okj.del b hb).2⟩,okj.new,okj.at_⟩
 have cjH:N9 P cj Bj.l F.ev H oj.op:=A29 cj0 rj0 (fun k cs hk=>B2A oki hD.dom hb0 hk) (fun k cs hk=>B4s oki hk) (fun b hb=>(same0 b hb).symm)
 refine⟨ej,rjH,okjH,cjH,fun bj hbj=>?_⟩
 --the first one behind the second one
 have rwU: ∀b,B03 (H b)=true→U b:=fun b hb=>hD.dom b fun h=>by rw[h]at hb;cases hb
 have nbj: ∀b,b∈ei.rd∨b∈ei.del→ej.new≠none→b≠bj:=fun b hb hn he=>by
  subst he
  unfold Ef.okB at hbj
  cases hnew:ej.new with
  |none=>exact hn hnew
  |some o=>
   rw[hnew]at hbj
   cases ha:ej.at_ with
   |none=>
    rw[ha]at hbj
    rcases hbj with hbj|hbj
    ·rcases hb with hb|hb
     ·exact hbj (hD.dom b (oki.rd b hb).1.2)
     ·exact hbj (rwU b (oki.del b hb).2)
    ·rcases hb with hb|hb
     ·have g2:=hB2 b (oki.rd b hb).1.1 (oki.rd b hb).2
      rcases(okjH.del b hbj).1 ha with g|g
      ·exact g g2.1
      ·exact g2.2 g
     ·exact djd b hbj hb
   |some y=>
    obtain⟨e1,e2,_⟩:=A18 ri (stj y ha)
    rw[e1,e2]at hb
    simp at hb
 have dij: ∀b,b∈ei.rd∨b∈ei.del→b∉ej.del:=fun b hb hbj=>by
  rcases hb with hb|hb
  ·cases ha:ej.at_ with
   |none=>
    have g2:=hB2 b (oki.rd b hb).1.1 (oki.rd b hb).2
    rcases(okjH.del b hbj).1 ha with g|g
    ·exact g g2.1
    ·exact g2.2 g
   |some y=>rw[(A18 ri (stj y ha)).1]at hb;cases hb
  ·exact djd b hbj hb
 have same1: ∀b,b∈ei.rd∨b∈ei.del→ej.app bj H b=H b:=fun b hb=>A17 (dij b hb) (nbj b hb)
 have riH:j4 P ci Bi.l (F.put oj.dst (ej.val bj)).ev (ej.app bj H) oi.op=some ei:=by
  rw[t7 (P5 a3)]
  exact A2e ri same1
 have okiH:A5Z Bi (ej.app bj H) ei:=⟨fun b hb=>⟨⟨(oki.rd b hb).1.1,by rw[same1 b (.inl hb)];exact(oki.rd b hb).1.2⟩,(oki.rd b hb).2⟩,fun b hb=>⟨(oki.del b hb).1,by rw[same1 b (.inr hb)];exact(oki.del b hb).2⟩,oki.new,oki.at_⟩
 have ciH:N9 P ci Bi.l (F.put oj.dst (ej.val bj)).ev (ej.app bj H) oi.op:=by
  rw[j6 (P5 a3)]
  exact A29 ci_ok ri (fun k cs hk=>B4s okjH hk) (fun k cs hk=>B2A okjH hD.dom hbj hk) same1
 refine⟨ei,riH,okiH,ciH,fun bi hbi=>?_⟩
 --the names are apart
 have hbiU:ei.okB bi U:=by
  unfold Ef.okB at hbi⊢
  cases hn:ei.new with
  |none=>trivial
  |some o=>
   rw[hn]at hbi
   cases ha:ei.at_ with
   |none=>
    rw[ha]at hbi
    exact hbi.imp (fun h hU=>h (A9N hU)) id
   |some y=>rw[ha]at hbi;exact hbi
 have nij:ei.new≠none→ej.new≠none→bi≠bj:=fun hn hm he=>by
  subst he
  unfold Ef.okB at hbi
  cases hn':ei.new with
  |none=>exact hn hn'
  |some o=>
   rw[hn']at hbi
   cases ha:ei.at_ with
   |none=>
    rw[ha]at hbi
    rcases hbi with hbi|hbi
    ·exact hbi (B4u hm)
    ·exact nbj bi (.inr hbi) hm rfl
   |some y=>exact hm (A18 rj0 (sti y ha)).2.2
 have nbi: ∀b,b∈ej.rd∨b∈ej.del→ei.new≠none→b≠bi:=fun b hb hn he=>by
  subst he
  unfold Ef.okB at hbi
  cases hn':ei.new with
  |none=>exact hn hn'
  |some o=>
   rw[hn']at hbi
   cases ha:ei.at_ with
   |none=>
    rw[ha]at hbi
    rcases hbi with hbi|hbi
    ·apply hbi
     have:U b:=by
      rcases hb with hb|hb
      ·exact hD.dom b (okjH.rd b hb).1.2
      ·exact rwU b (okjH.del b hb).2
     exact A9N this
    ·exact dij b (.inr hbi) (by rcases hb with hb|hb;exact absurd hbi (djr b hb);exact hb)
   |some y=>
    obtain⟨e1,e2,_⟩:=A18 rj0 (sti y ha)
    rw[e1,e2]at hb
    simp at hb
 obtain⟨ej',rj',okj',cj',hj⟩:=hi bi hbiU
 have same2: ∀b,b∈ej.rd∨b∈ej.del→ei.app bi H b=H b:=fun b hb=>A17 (hb.elim (djr b) (djd b)) (nbi b hb)
 have hej:ej'=ej:=by
  rw[t7 (P5 a1)]at rj'
  have:=A2e rjH same2
  rw[rj']at this
  exact Option.some.inj this
 subst hej
 have hbj1:ej'.okB bj (ei.used bi U):=by
  unfold Ef.okB at hbj⊢
  cases hn:ej'.new with
  |none=>trivial
  |some o=>
   rw[hn]at hbj
   cases ha:ej'.at_ with
   |none=>
    rw[ha]at hbj
    refine hbj.imp (fun h hU=>?_) id
    rcases used_inv hU with hU|⟨hni,hU⟩
    ·exact h hU
    ·exact nij hni (by rw[hn];simp) hU.symm
   |some y=>rw[ha]at hbj;exact hbj
 have:=hj bj hbj1
 rw[A1g a2,B4t (fun b hb hb'=>djd b hb' hb) nij (fun hn hb=>nbi bi (.inr hb) hn rfl) (fun hn hb=>nbj bj (.inr hb) hn rfl),B3R]at this
 exact this
abbrev O0(ops:Array Oper):List (Option Nat):=ops.toList.map (·.dst)
theorem B2B(ops:Array Oper)(j:Nat):G9 (O0 ops) j=(ops[j]?).bind (·.dst):=by
 unfold G9
 rw[C9m]
 cases hj:ops[j]? with
 |none=>simp[hj]
 |some o=>simp[hj]
theorem A9P{ops:Array Oper}{F:FEnv}{o:Oper}{dst:Option Tmp}{d:D}(h: ∀t,dst=some t→t∉o.looksAt ops):A1f (O0 ops) (F.put dst d) o.guard=A1f (O0 ops) F o.guard:=by
 cases hg:o.guard with
 |none=>rfl
 |some jw=>
  obtain⟨j,want⟩:=jw
  unfold A1f
  simp only[]
  rw[B2B]
  cases hs:(ops[j]?).bind (·.dst)with
  |none=>rfl
  |some s=>
   simp only[]
   cases dst with
   |none=>rfl
   |some t=>
    have hne:t≠s:=fun e=>h t rfl (by subst e;simp[Oper.looksAt,hg,hs])
    simp only[FEnv.put,if_neg hne]
theorem B3S{ops:Array Oper}{oi oj:Oper}{ci cj:CR}{K:Kf}{F:FEnv}{H:Heap}{U:Nat→Prop}(hap:oi.apart ops oj=true)(hcalm:A0j P oi.op oj.op=true)(hB:A3u Bi Bj)(hD:Dom H U)
  (h:A0G P (O0 ops) ci Bi oi (A0G P (O0 ops) cj Bj oj K) F H U):A0G P (O0 ops) cj Bj oj (A0G P (O0 ops) ci Bi oi K) F H U:=by
 obtain⟨a1,a2,a3⟩:=Oper.apart_spec hap
 have gj: ∀v,A1f (O0 ops) (F.put oi.dst v) oj.guard=A1f (O0 ops) F oj.guard:=fun v=>A9P a1
 have gi: ∀v,A1f (O0 ops) (F.put oj.dst v) oi.guard=A1f (O0 ops) F oi.guard:=fun v=>A9P a3
 rcases h with⟨hr,h⟩|⟨hr,h⟩
 ·--the first one A1f
  cases hj:A1f (O0 ops) F oj.guard with
  |none=>
   exfalso
   obtain⟨e,_,_,_,h5⟩:=h
   obtain⟨x,hx,_⟩:=hD.fin []
   obtain⟨b,hb⟩: ∃b,e.okB b U:=by
    unfold Ef.okB
    cases e.new with
    |none=>exact⟨x,trivial⟩
    |some o=>
     cases e.at_ with
     |none=>exact⟨x,.inl hx⟩
     |some y=>exact⟨y,rfl⟩
   rcases h5 b hb with⟨h6,_⟩|⟨h6,_⟩<;>rw[gj,hj]at h6<;>cases h6
  |some r=>
   cases r with
   |true=>
    have h2:A0F P ci Bi oi (A0F P cj Bj oj K) F H U:=A08 (fun v H U hk=>by
     rcases hk with⟨_,hk⟩|⟨h6,_⟩
     ·exact hk
     ·rw[gj,hj]at h6;cases h6) h
    exact .inl ⟨hj,A08 (fun v H U hk=>.inl ⟨by rw[gi];exact hr,hk⟩) (B05 hap hcalm hB hD h2)⟩
   |false=>
    have h2:A0F P ci Bi oi (fun F H U=>K (F.put oj.dst (.tuple [])) H U) F H U:=A08 (fun v H U hk=>by
     rcases hk with⟨h6,_⟩|⟨_,hk⟩
     ·rw[gj,hj]at h6;cases h6
     ·exact hk) h
    refine .inr ⟨hj,.inl ⟨by rw[gi];exact hr,?_⟩⟩
    obtain⟨e,h3,h4,h5,h6⟩:=h2
    exact⟨e,by rw[t7 (P5 a3)];exact h3,h4,by rw[j6 (P5 a3)];exact h5,fun b hb=>by rw[←A1g a2];exact h6 b hb⟩
 ·--it does not
  rcases h with⟨h6,h⟩|⟨h6,h⟩
  ·rw[gj]at h6
   refine .inl ⟨h6,?_⟩
   obtain⟨e,h3,h4,h5,h7⟩:=h
   refine⟨e,by rw[←h3];exact(t7 (P5 a1)).symm,h4,by rw[←j6 (P5 (F:=F) (d:=.tuple []) a1)];exact h5,fun b hb=>.inr ⟨by rw[gi];exact hr,?_⟩⟩
   rw[←A1g a2];exact h7 b hb
  ·rw[gj]at h6
   exact .inr ⟨h6,.inr ⟨by rw[gi];exact hr,by rw[←A1g a2];exact h⟩⟩
variable {ops:Array Oper} {md:Region.Mode} {cs:Nat→CR} {bs:Nat→Bl}
def sE(P:Program)(cs:Nat→CR)(bs:Nat→Bl)(ops:Array Oper)(i:Nat)(K:Kf):Kf:=match ops[i]? with
 |none=>K
 |some o=>A0G P (O0 ops) (cs i) (bs i) o K
def B3T(P:Program)(cs:Nat→CR)(bs:Nat→Bl)(md:Region.Mode)(ops:Array Oper)(K:Kf):Nat→Array Bool→Kf
 |0,listed=>fun F H U=>Region.ready md ops listed= []∧K F H U
 |fuel+1,listed=>fun F H U=>(Region.ready md ops listed= []→K F H U)∧∀i∈Region.ready md ops listed,sE P cs bs ops i (B3T P cs bs md ops K fuel (listed.setIfInBounds i true)) F H U
theorem B06{e:Ef}{H:Heap}{U:Nat→Prop}(hD:Dom H U): ∃b,e.okB b U:=by
 obtain⟨x,hx,_⟩:=hD.fin []
 unfold Ef.okB
 cases e.new with
 |none=>exact⟨x,trivial⟩
 |some o=>
  cases e.at_ with
  |none=>exact⟨x,.inl hx⟩
  |some y=>exact⟨y,rfl⟩
theorem B3U{o:Oper}{K:Kf}{F:FEnv}{H:Heap}{U:Nat→Prop}(hD:Dom H U)(h:A0F P c bb o K F H U):A0F P c bb o (fun F H U=>Dom H U∧K F H U) F H U:=
 let ⟨e,h2,h3,h4,h5⟩:=h;⟨e,h2,h3,h4,fun b hb=>⟨hD.app hb,h5 b hb⟩⟩
theorem A9Q{gs:List (Option Nat)}{o:Oper}{F:FEnv}{H:Heap}{U:Nat→Prop}(hD:Dom H U)(h:A0G P gs c bb o (fun _ _ _=>False) F H U):False:=by
 rcases h with⟨_,e,_,_,_,h5⟩|⟨_,h⟩
 ·obtain⟨b,hb⟩:=B06 (e:=e) hD
  exact h5 b hb
 ·exact h
theorem A6t{gs:List (Option Nat)}{o:Oper}{K:Kf}{F:FEnv}{H:Heap}{U:Nat→Prop}(hD:Dom H U)(h:A0G P gs c bb o K F H U):A0G P gs c bb o (fun F H U=>Dom H U∧K F H U) F H U:=
 h.imp (fun h=>⟨h.1,B3U hD h.2⟩) fun h=>⟨h.1,hD,h.2⟩
theorem B07{K:Kf}{i:Nat}{oi:Oper}{W:Nat→Prop}(hi:ops[i]? =some oi)(hW:Closed md ops i W):
  ∀(fuel:Nat) (listed:Array Bool) (F:FEnv) (H:Heap) (U:Nat→Prop),Dom H U→(∀j,W j→listed.getD j false=false)→
   (∀j oj,ops[j]? =some oj→¬W j→listed.getD j true=false→(oi.apart ops oj=true∧A0j P oi.op oj.op=true)∧A3u (bs i) (bs j))→
   i∈Region.ready md ops listed→A0G P (O0 ops) (cs i) (bs i) oi (B3T P cs bs md ops K fuel (listed.setIfInBounds i true)) F H U→B3T P cs bs md ops K (fuel+1) listed F H U:=by
 intro fuel
 induction fuel with
 |zero=>
  intro listed F H U hD _ _ hr h
  refine⟨fun h0=>(by rw[h0]at hr;cases hr),fun j hj=>?_⟩
  by_cases hji:j=i
  ·subst hji;unfold sE;simp only[hi];exact h
  ·exfalso
   refine A9Q hD (A09 (fun F H U hk=>?_) h)
   have:=ready_mono hj hji
   rw[hk.1]at this
   cases this
 |succ fuel ih=>
  intro listed F H U hD hun hfree hr h
  refine⟨fun h0=>(by rw[h0]at hr;cases hr),fun j hj=>?_⟩
  by_cases hji:j=i
  ·subst hji;unfold sE;simp only[hi];exact h
  ·obtain⟨hjun,oj,hoj,_⟩:=mem_ready.1 hj
   have hnW:=hW.not_ready hun hj hji
   obtain⟨⟨hap,hcalm⟩,hBB⟩:=hfree j oj hoj hnW hjun
   have hun': ∀k,W k→(listed.setIfInBounds j true).getD k false=false:=fun k hk=>by
    rw[U5 (fun e:j=k=>hnW (by rw[e];exact hk))];exact hun k hk
   have hfree': ∀k ok,ops[k]? =some ok→¬W k→(listed.setIfInBounds j true).getD k true=false→(oi.apart ops ok=true∧A0j P oi.op ok.op=true)∧A3u (bs i) (bs k):=fun k ok hk hnk hu=>by
    refine hfree k ok hk hnk ?_
    by_cases hjk:j=k
    ·subst hjk;exact hjun
    ·rw[getD_set_ne true hjk]at hu;exact hu
   have h1:A0G P (O0 ops) (cs i) (bs i) oi (A0G P (O0 ops) (cs j) (bs j) oj (B3T P cs bs md ops K fuel ((listed.setIfInBounds i true).setIfInBounds j true))) F H U:=A09 (fun F H U hk=>by
    have:=hk.2 j (ready_mono hj hji)
    unfold sE at this
    simp only[hoj]at this
    exact this) h
   have h2:=A6t hD (B3S hap hcalm hBB hD h1)
   unfold sE
   simp only[hoj]
   refine A09 (fun F H U hk=>ih (listed.setIfInBounds j true) F H U hk.1 hun' hfree' (ready_mono hr (Ne.symm hji)) ?_) h2
   rw[Array.setIfInBounds_comm _ _ hji]
   exact hk.2
def A6u(P:Program)(gs:List (Option Nat))(cs:Nat→CR)(bs:Nat→Bl)(K:Kf):Nat→List Oper→Kf
 |_,[]=>K
 |k,o::l=>A0G P gs (cs k) (bs k) o (A6u P gs cs bs K (k+1) l)
def A40(P:Program)(ops:Array Oper)(oi oj:Oper):Bool:=oi.apart ops oj&&A0j P oi.op oj.op
def A19(P:Program)(ops:Array Oper)(oi:Oper):List Oper→List Bool→Bool
 | [],_=>true
 |o::l,b::W=>(b||A40 P ops oi o)&&A19 P ops oi l W
 |_::_,[]=>false
def A41(P:Program)(ops:Array Oper):Nat→List Oper→Bool
 |_,[]=>true
 |k,o::l=>(o.after.all fun e=> !Region.binds .any e||e.on<k)&&A19 P ops o l (W6 k l [])&&A41 P ops (k+1) l
def B2C(P:Program)(ops:Array Oper):Bool:=A41 P ops 0 ops.toList
def B3V:(Nat→Bl)→Nat→List Oper→Prop
 |_,_,[]=>True
 |bs,k,o::l=>(∀i,i<l.length→(W6 k l [])[i]? ≠some true→A3u (bs k) (bs (k+1+i)))∧B3V bs (k+1) l
theorem A2f(bl:List Nat): ∀(l:List Oper) (k:Nat),B3V (fun _=>⟨bl,[],[]⟩) k l
 | [],_=>trivial
 |_::l,k=>⟨fun i _ _=>⟨fun b h _=>⟨h,(by simp)⟩,fun b h _=>⟨h,(by simp)⟩⟩,A2f bl l (k+1)⟩
theorem okRestE_at{oi:Oper}: ∀(l:List Oper) (W:List Bool),A19 P ops oi l W=true→∀(i:Nat) (o:Oper),l[i]? =some o→W[i]? =some true∨A40 P ops oi o=true
 | [],_,_,i,o,h=>by simp at h
 |o'::l,[],h,_,_,_=>by simp[A19]at h
 |o'::l,b::W,h,0,o,h0=>by
  simp[A19]at h h0;subst h0
  rcases h.1 with h|h
  ·exact .inl (by simp[h])
  ·exact .inr h
 |o'::l,b::W,h,i+1,o,h0=>by
  simp[A19]at h h0
  simpa using okRestE_at l W h.2 i o h0
theorem A9R{K:Kf}: ∀(l:List Oper) (k:Nat) (listed:Array Bool),(∀j,l[j]? =ops[k+j]?)→(∀j,listed.getD j false=decide (j<k))→(listed.size=ops.size)→
  A41 P ops k l=true→B3V bs k l→∀F H U,Dom H U→A6u P (O0 ops) cs bs K k l F H U→B3T P cs bs .any ops K l.length listed F H U:=by
 intro l
 induction l with
 |nil=>
  intro k listed hl hL hsz _ _ F H U _ h
  refine⟨?_,h⟩
  cases hr:Region.ready .any ops listed with
  |nil=>rfl
  |cons x xs=>
   exfalso
   have hx:x∈Region.ready .any ops listed:=by rw[hr];simp
   obtain⟨h0,o,ho,_⟩:=mem_ready.1 hx
   have:=hL x
   rw[J2 h0]at this
   have hk:k≤x:=by simpa using this
   have:=hl (x-k)
   rw[show k+(x-k)=x from by omega,ho]at this
   simp at this
 |cons o l ih=>
  intro k listed hl hL hsz hok hblk F H U hD h
  obtain⟨hb1,hb2⟩:=hblk
  have h0:ops[k]? =some o:=by simpa using(hl 0).symm
  have hkl:k<ops.size:=(C9o.1 h0).1
  simp only[A41,C9c]at hok
  obtain⟨⟨he,hr⟩,hnext⟩:=hok
  have hl': ∀j,l[j]? =ops[k+1+j]? :=fun j=>by have:=hl (j+1);simpa [Nat.add_assoc,Nat.add_comm 1 j]using this
  have hready:k∈Region.ready .any ops listed:=by
   rw[mem_ready]
   refine⟨?_,o,h0,fun e hem hb=>?_⟩
   ·have:=hL k
    simp at this
    have hks:k<listed.size:=by omega
    simp[hks]at this⊢
    exact this
   ·rw[hL]
    rw[Array.all_eq_true_iff_forall_mem]at he
    have:=he e hem
    simp[hb]at this
    simpa using this
  have hL': ∀j,(listed.setIfInBounds k true).getD j false=decide (j<k+1):=fun j=>by
   by_cases hkj:k=j
   ·subst hkj
    have hks:k<listed.size:=by omega
    simp[hks]
   ·rw[getD_set_ne false hkj,hL]
    apply C92.2
    omega
  have hsz':(listed.setIfInBounds k true).size=ops.size:=by simpa using hsz
  let W:Nat→Prop:=fun j=>j=k∨(k<j∧(W6 k l [])[j-(k+1)]? =some true)
  have hWc:Closed .any ops k W:=by
   refine⟨.inl rfl,fun j oj hj hne hoj=>?_⟩
   rcases hj with hj|⟨hlt,hj⟩
   ·exact absurd hj hne
   ·have hlj:l[j-(k+1)]? =some oj:=by rw[hl'];rw[show k+1+(j-(k+1))=j from by omega];exact hoj
    have hat:=A5X k l [] (j-(k+1)) oj hlj
    simp only[C9W,Nat.zero_add]at hat
    rw[hj]at hat
    have hw:i8 oj k ((W6 k l []).take (j-(k+1)))=true:=by simpa using hat.symm
    unfold i8 at hw
    obtain⟨e,hem,hcond⟩:=Array.any_eq_true'.1 hw
    simp only[C9c,D0m,beq_iff_eq,C9l]at hcond
    refine⟨e,hem,hcond.1,?_⟩
    rcases hcond.2 with h1|⟨h1,h2⟩
    ·exact .inl h1
    ·refine .inr ⟨h1,?_⟩
     rw[List.getD_eq_getElem?_getD]at h2
     cases ht:((W6 k l []).take (j-(k+1)))[e.on-(k+1)]? with
     |none=>rw[ht]at h2;simp at h2
     |some b=>
      rw[ht]at h2;simp at h2;subst h2
      rw[List.getElem?_take]at ht
      split at ht
      ·exact ht
      ·cases ht
  have hun: ∀j,W j→listed.getD j false=false:=fun j hj=>by
   rw[hL];rcases hj with rfl|⟨hlt,_⟩<;>simp;omega
  have hfree: ∀j oj,ops[j]? =some oj→¬W j→listed.getD j true=false→A40 P ops o oj=true∧A3u (bs k) (bs j):=fun j oj hoj hnW hu=>by
   have h1:=hL j
   rw[J2 hu]at h1
   have hkj:k≤j:=by simpa using h1
   have hne:j≠k:=fun e=>hnW (.inl e)
   have hlj:l[j-(k+1)]? =some oj:=by rw[hl'];rw[show k+1+(j-(k+1))=j from by omega];exact hoj
   have hnw:(W6 k l [])[j-(k+1)]? ≠some true:=fun h2=>hnW (.inr ⟨by omega,h2⟩)
   have hb3:=hb1 (j-(k+1)) (C9Z.1 hlj).1 hnw
   rw[show k+1+(j-(k+1))=j from by omega]at hb3
   rcases okRestE_at l _ hr _ _ hlj with h2|h2
   ·exact absurd h2 hnw
   ·exact⟨h2,hb3⟩
  refine B07 h0 hWc l.length listed F H U hD hun (fun j oj hoj hnW hu=>?_) hready (A09 (fun F' H' U' h'=>ih (k+1) _ hl' hL' hsz' hnext hb2 F' H' U' h'.1 h'.2) (A6t hD h))
  obtain⟨h1,h2⟩:=hfree j oj hoj hnW hu
  exact⟨by simpa [A40]using h1,h2⟩
def Ef.okH(e:Ef)(b:Nat)(H:Heap):Prop:=match e.new,e.at_ with
 |none,_=>True
 |some _,some c=>b=c
 |some _,none=>H b=none∨b∈e.del
theorem C1d{e:Ef}{b:Nat}{H:Heap}{U:Nat→Prop}(hD:Dom H U)(h:e.okB b U):e.okH b H:=by
 unfold Ef.okB at h
 unfold Ef.okH
 cases hn:e.new with
 |none=>trivial
 |some o=>
  rw[hn]at h
  cases ha:e.at_ with
  |none=>
   rw[ha]at h
   refine h.imp (fun h=>?_) id
   cases hb:H b with
   |none=>rfl
   |some x=>exact absurd (hD.dom b (by rw[hb];simp)) h
  |some y=>rw[ha]at h;exact h
theorem F3(H:Heap):H.minus []=H:=by funext k;simp[Heap.minus]
theorem B3W{b k:Nat}:(H.del b) k=none↔k=b∨H k=none:=by unfold Heap.del;by_cases h:k=b<;>simp[h]
theorem A2A{t:TypeId}{a x:D}{H':Heap}{b:Nat}(h:X2 P t a x H=some H')(ha:rdB a= [b]): ∃o,H' b=some o∧o.rw=true∧H'=H.set b o∧B03 (H b)=true:=by
 unfold X2 at h
 split at h
 ·split at h
  ·rename_i b' off
   obtain rfl:b'=b:=by simpa [rdB]using ha
   split at h
   ·rename_i cs Z hcs
    split at h
    ·cases h;exact⟨_,by simp[Heap.set],rfl,rfl,by rw[hcs];rfl⟩
    ·cases h
   ·cases h
  ·rename_i b' sz i off
   obtain rfl:b'=b:=by simpa [rdB]using ha
   split at h
   ·rename_i sz' es hcs
    split at h
    ·cases h;exact⟨_,by simp[Heap.set],rfl,rfl,by rw[hcs];rfl⟩
    ·cases h
   ·cases h
  ·cases h
 ·cases h
theorem Y1(H:Heap)(b:Nat)(o:Obj):(H.minus [b]).set b o=H.set b o:=by
 funext k;unfold Heap.set Heap.minus
 by_cases h:k=b<;>simp[h]
theorem B8B{op:Op}{e:Ef}(h:j4 P c bl ev H op=some e)(hok:A5Z bb H e)(hcall:N9 P c bl ev H op):
  D0 P ev H (fun d H'=>∃b,e.okH b H∧d=e.val b∧(e.app b H).Le H') op:=by
 have one: ∀{K:D→Heap→Prop} {d:D} {rd:List Nat},e=val d rd→(∃b,e.okH b H∧d=e.val b∧(e.app b H).Le H):=by
  intro K d rd he
  subst he
  exact⟨0,trivial,rfl,by show (H.minus []).Le H;rw[F3];exact D0q H⟩
 by_cases hc:I5 P op= .pure
 ·rw[S4 hc]at h
  obtain⟨d,hd,rfl⟩:=C9Y.1 h
  have fin: ∃d',J9 P ev op=some d'∧∃b,(val d []).okH b H∧d'=(val d []).val b∧((val d []).app b H).Le H:=⟨d,hd,0,trivial,rfl,by show (H.minus []).Le H;rw[F3];exact D0q H⟩
  cases op
  case call cc=>
   obtain⟨callee,args,ats⟩:=cc
   cases callee with
   |value f=>simp[I5]at hc
   |invoke r m=>simp[I5]at hc
   |builtin b=>
    cases b<;>try(simp[I5]at hc;done)
    all_goals (simp only[D0,hc];exact fin)
  case convert s t x=>simp only[D0,hc];exact fin
  case load t x=>simp[I5]at hc
  case store t a x=>simp[I5]at hc
  case alloc t=>simp[I5]at hc
  case box t x=>simp[I5]at hc
  case buildSlice t n p=>simp[I5]at hc
  case makeSlice t a b=>simp[I5]at hc
  case range t x=>simp[I5]at hc
  case next x i=>simp[I5]at hc
  case makeMap t r=>simp[I5]at hc
  case lookup t m k ok=>simp[I5]at hc
  case mapUpdate t m k v=>simp[I5]at hc
  all_goals first
   |(simp only[D0,hc];exact fin)
   |(simp[I5]at hc;done)
 ·rw[H9 hc]at h
  cases op
  case load t x=>
   simp only[H7,C9Y]at h
   obtain⟨d,hd,rfl⟩:=h
   exact⟨d,hd,0,trivial,rfl,by show (H.minus []).Le H;rw[F3];exact D0q H⟩
  case lookup t m k ok=>
   simp only[H7,C9Y]at h
   obtain⟨d,hd,rfl⟩:=h
   exact⟨d,hd,0,trivial,rfl,by show (H.minus []).Le H;rw[F3];exact D0q H⟩
  case alloc t=>
   simp only[H7,C9Y]at h
   obtain⟨z,hz,rfl⟩:=h
   exact⟨z,hz,fun b hb=>⟨b,.inl hb,rfl,by show ((H.minus []).set b _).Le _;rw[F3];exact D0q _⟩⟩
  case box t x=>
   simp only[H7]at h
   split at h
   ·rename_i h1
    cases h
    exact⟨h1,fun b hb=>⟨b,.inl hb,rfl,by show ((H.minus []).set b _).Le _;rw[F3];exact D0q _⟩⟩
   ·cases h
  case makeSlice t l c=>
   simp only[H7]at h
   obtain⟨e',sz,by_,z,k,n,k',m,h1,h2,h3,h4,h5,h6,h7,h8,h9,h10,rfl⟩:=A4z h
   exact⟨e',sz,by_,z,k,n,k',m,h1,h2,h3,h4,h5,h6,h7,h8,h9,h10,fun b hb=>⟨b,.inl hb,rfl,by show ((H.minus []).set b _).Le _;rw[F3];exact D0q _⟩⟩
  case buildSlice t n parts=>
   simp only[H7,bsE]at h
   obtain⟨⟨e',sz,by_⟩,hT,h⟩:=C9b.1 h
   split at h
   ·rename_i h1
    obtain⟨z,hz,h⟩:=C9b.1 h
    split at h
    ·rename_i h2
     obtain⟨es,hes,rfl⟩:=C9Y.1 h
     exact⟨e',sz,by_,z,es,hT,h1.1,h1.2,hz,h2,hes,fun b hb=>⟨b,.inl hb,rfl,by show ((H.minus []).set b _).Le _;rw[F3];exact D0q _⟩⟩
    ·cases h
   ·cases h
  case store t a x=>
   simp only[H7,j0]at h
   obtain⟨H1,hs,h⟩:=C9b.1 h
   refine⟨H1,hs,?_⟩
   cases ha:ev a with
   |box b off=>
    rw[ha]at h hs
    simp only at h
    obtain⟨o,ho,rfl⟩:=C9Y.1 h
    obtain⟨o',ho',_,hH1,_⟩:=A2A hs (b:=b) rfl
    rw[ho]at ho';cases ho'
    exact⟨b,rfl,rfl,by show ((H.minus [b]).set b _).Le _;rw[Y1,hH1];exact D0q _⟩
   |el b sz i off=>
    rw[ha]at h hs
    simp only at h
    obtain⟨o,ho,rfl⟩:=C9Y.1 h
    obtain⟨o',ho',_,hH1,_⟩:=A2A hs (b:=b) rfl
    rw[ho]at ho';cases ho'
    exact⟨b,rfl,rfl,by show ((H.minus [b]).set b _).Le _;rw[Y1,hH1];exact D0q _⟩
   |_=>rw[ha]at h;simp at h
  case call cc=>
   obtain⟨callee,args,ats⟩:=cc
   cases callee with
   |value f=>
    simp only[H7]at h
    simp only[N9]at hcall
    simp only[D0]
    split at h
    ·rename_i g first cap hf
     cases h
     rw[hf]at hcall⊢
     simp only at hcall⊢
     refine(hcall H (fun k cs hk=>hk) (fun b hb=>rfl)).mono fun d H' hd=>?_
     unfold CR.post at hd
     unfold Ef.okH Ef.app
     cases hn:c.new with
     |none=>rw[hn]at hd;exact⟨0,by simp only[hn],by simp only[CR.f,hn];exact hd.1,by simp only[hn];exact hd.2⟩
     |some o=>
      rw[hn]at hd
      obtain⟨b,h1,h2,h3⟩:=hd
      exact⟨b,by simp only[hn];exact h1,by simp only[CR.f,hn];exact h2,by simp only[hn];exact h3⟩
    ·cases h
   |invoke r m=>simp[H7]at h
   |builtin b=>
    cases b
    case append=>
     unfold H7 at h
     simp only at h
     simp only[D0]
     split at h
     ·rename_i t t' s x h1 h2
      simp only[h1,h2]
      unfold B04 at h
      obtain⟨⟨e',sz,by_⟩,hT,h⟩:=C9b.1 h
      split at h
      ·rename_i hcond
       simp only at hcond h
       obtain⟨xs,hxs,h⟩:=C9b.1 h
       refine⟨e',sz,by_,hT,hcond.1,hcond.2.1,hcond.2.2,xs,hxs,?_⟩
       split at h
       ·rename_i hsv
        split at h
        ·rename_i hx
         cases h
         rw[hsv]
         refine⟨hx.1,hx.2.1,fun he=>by rw[he]at hx;simp at hx,fun _ b hb=>⟨b,.inl hb,rfl,?_⟩⟩
         intro k o hk
         simp only[Ef.app,Heap.set]at hk⊢
         split at hk
         ·rename_i hkb;rw[if_pos hkb];exact hk
         ·rename_i hkb;rw[if_neg hkb];exact A5T _ _ k o hk
        ·cases h
       ·rename_i b sz' lo n hsv
        split at h
        ·rename_i sz'' es hb
         split at h
         ·rename_i hx
          obtain⟨x1,x2,x3,x4,x5,x6⟩:=hx
          subst x1;subst x2;subst x3
          cases h
          rw[hsv]
          refine⟨rfl,.inl ⟨rfl,es,hb,x4,x5,x6,fun b' hb'=>⟨b',?_,rfl,?_⟩⟩⟩
          ·show H b'=none∨b'∈b::_
           rcases B3W.1 hb' with h|h
           ·exact .inr (by rw[h];exact C9a ..)
           ·exact .inl h
          ·intro k o hk
           simp only[Ef.app,Heap.set]at hk⊢
           split at hk
           ·rename_i hkb;rw[if_pos hkb];exact hk
           ·rename_i hkb
            rw[if_neg hkb]
            unfold Heap.minus at hk
            split at hk
            ·cases hk
            ·rename_i hkm
             simp only[C9r,not_or]at hkm
             unfold Heap.del
             rw[if_neg hkm.1];exact hk
         ·cases h
        ·cases h
       ·cases h
      ·cases h
     ·cases h
    all_goals cases h
  case makeMap t r=>
   cases r with
   |none=>
    simp only[H7,C91]at h
    subst h
    exact fun b hb=>⟨b,.inl hb,rfl,by show ((H.minus []).set b _).Le _;rw[F3];exact D0q _⟩
   |some r=>simp[H7]at h
  all_goals cases h
structure StF(N:Nat)(w0:World)(H0:Heap)(F:FEnv)(H:Heap)(U:Nat→Prop)(a:Act)(w:World):Prop where
 size:a.tmps.size=N
 defers:a.defers= []
 env: ∀i,R w H (F i) (a.eval (.tmp i))
 sat:Sat H w
 ext:Ext H0 w0 w
 frm:From w0 H0 H
 dom:Dom H U
 lt: ∀b,U b→b<w.heap.size
theorem StF.evR{N:Nat}{w0:World}{H0:Heap}{F:FEnv}{U:Nat→Prop}{a:Act}{w:World}(h:StF N w0 H0 F H U a w)(x:Operand):R w H (F.ev x) (a.eval x):=by
 cases x with
 |tmp t=>exact h.env t
 |const v=>exact A15 w H v
 |global g=>exact .glob g
 |func f=>exact .fn _ _ _ _ _ rfl rfl (by simp) (by simp)
theorem B4v{e:Ef}{b:Nat}{o:Obj}{H:Heap}(h:e.new=some o):e.app b H b=some o:=by unfold Ef.app;rw[h];simp[Heap.set]
theorem A9S{N:Nat}{w0:World}{H0:Heap}{o:Oper}{K:Kf}{F:FEnv}{U:Nat→Prop}{a:Act}{w:World}(hd: ∀t,o.dst=some t→t<N)(h:A0F P c bb o K F H U)(hst:StF N w0 H0 F H U a w):
  opSem P none o a w fun v w'=>∃F' H' U',StF N w0 H0 F' H' U' (a.put o.dst v) w'∧K F' H' U':=by
 obtain⟨e,he,hok,hcall,hk⟩:=h
 refine(N0 (o:=o) hst.sat hst.evR (B8B he hok hcall)).mono fun v w' hp=>?_
 obtain⟨d,H',hR,hS,hE,hF,b,hb,rfl,hle⟩:=hp
 have hnew: ∀ob,e.new=some ob→H b=none→w.heap.size≤b:=fun ob hob hbn=>by
  rcases Nat.lt_or_ge b w.heap.size with hlt|hge
  ·have h1:=hF b hlt (G8 hbn)
   have h2:=hle b ob (B4v hob)
   rw[I6 h2,hok.new ob hob]at h1
   cases h1
  ·exact hge
 have hbU:e.okB b U:=by
  unfold Ef.okH at hb
  unfold Ef.okB
  cases hn:e.new with
  |none=>trivial
  |some ob=>
   rw[hn]at hb
   cases ha:e.at_ with
   |none=>
    rw[ha]at hb
    exact hb.imp (fun hbn hU=>by have:=hst.lt b hU;have:=hnew ob hn hbn;omega) id
   |some y=>rw[ha]at hb;exact hb
 refine⟨F.put o.dst (e.val b),e.app b H,e.used b U,?_,hk b hbU⟩
 have hF':From w H (e.app b H):=hF.less hle
 refine⟨?_,?_,fun i=>?_,hS.less hle,hst.ext.trans hst.frm hE,hst.frm.trans hst.ext.size hF',hst.dom.app hbU,fun k hk=>?_⟩
 ·cases o.dst<;>simp[Act.put,hst.size]
 ·cases o.dst<;>exact hst.defers
 ·cases hdst:o.dst with
  |none=>exact(hst.env i).mono hE hF'
  |some t=>
   have ht:=hd t hdst
   simp only[FEnv.put]
   by_cases hti:t=i
   ·subst hti
    rw[if_pos rfl]
    have:(a.put (some t) v).eval (.tmp t)=v:=by
     have h':t<a.tmps.size:=by rw[hst.size];exact ht
     simp[Act.eval,Act.put,h']
    rw[this];exact hR.less hle
   ·rw[if_neg hti]
    have:(a.put (some t) v).eval (.tmp i)=a.eval (.tmp i):=by
     simp[Act.eval,Act.put,C93 hti]
    rw[this];exact(hst.env i).mono hE hF'
 ·rcases used_inv hk with hk|⟨hn,rfl⟩
  ·exact D0L (hst.lt k hk) hE.size
  ·cases hn':e.new with
   |none=>exact absurd hn' hn
   |some ob=>exact hS.lt (hle k ob (B4v hn'))
theorem A4O{N:Nat}{w0:World}{H0:Heap}{F:FEnv}{H:Heap}{U:Nat→Prop}{a:Act}{w:World}{o:Oper}{r:Bool}(hst:StF N w0 H0 F H U a w)(h:A1f (O0 ops) F o.guard=some r):Region.wanted o (yielded ops a.tmps)=r:=by
 cases hg:o.guard with
 |none=>rw[hg]at h;cases h;simp[Region.wanted,hg]
 |some jw=>
  obtain⟨j,want⟩:=jw
  rw[hg]at h
  unfold A1f at h
  simp only[]at h
  rw[B2B]at h
  cases hs:(ops[j]?).bind (·.dst)with
  |none=>
   rw[hs]at h
   cases h
   have hy:yielded ops a.tmps j=none:=by unfold yielded;rw[hs];rfl
   simp[Region.wanted,hg,hy]
  |some s=>
   rw[hs]at h
   simp only[]at h
   have hv:=hst.env s
   split at h
   ·rename_i hF
    cases h
    rw[hF]at hv
    obtain⟨vs,hv,_⟩:=hv.tuple_inv
    have hy:yielded ops a.tmps j=none:=by
     unfold yielded
     rw[hs]
     simp only[C9t]
     simp only[Act.eval]at hv
     cases ht:a.tmps[s]? with
     |none=>rfl
     |some u=>
      simp[ht]at hv
      subst hv;rfl
    simp[Region.wanted,hg,hy]
   ·rename_i b hF
    cases h
    rw[hF]at hv
    have hv:=hv.bool_inv
    have hy:yielded ops a.tmps j=some b:=by
     unfold yielded
     rw[hs]
     simp only[C9t]
     simp only[Act.eval]at hv
     cases ht:a.tmps[s]? with
     |none=>
      simp[ht]at hv
      cases hv
     |some u=>
      simp[ht]at hv
      subst hv;rfl
    simp[Region.wanted,hg,hy]
   ·cases h
theorem StF.skip{N:Nat}{w0:World}{H0:Heap}{F:FEnv}{H:Heap}{U:Nat→Prop}{a:Act}{w:World}(hst:StF N w0 H0 F H U a w){dst:Option Nat}(hd: ∀t,dst=some t→t<N):StF N w0 H0 (F.put dst (.tuple [])) H U (a.put dst undef) w:=by
 refine⟨?_,?_,fun i=>?_,hst.sat,hst.ext,hst.frm,hst.dom,hst.lt⟩
 ·cases dst<;>simp[Act.put,hst.size]
 ·cases dst<;>exact hst.defers
 ·cases dst with
  |none=>exact hst.env i
  |some t=>
   have ht:=hd t rfl
   simp only[FEnv.put]
   by_cases hti:t=i
   ·subst hti
    rw[if_pos rfl]
    have:(a.put (some t) undef).eval (.tmp t)=undef:=by
     have h':t<a.tmps.size:=by rw[hst.size];exact ht
     simp[Act.eval,Act.put,h']
    rw[this];exact .tuple [] #[] rfl (by simp)
   ·rw[if_neg hti]
    have:(a.put (some t) undef).eval (.tmp i)=a.eval (.tmp i):=by
     simp[Act.eval,Act.put,C93 hti]
    rw[this];exact hst.env i
theorem A1A{N:Nat}{w0:World}{H0:Heap}{K:Kf}{Q:Exit→Act→World→Prop}(hd: ∀o∈ops.toList,∀t,o.dst=some t→t<N)
  (hQ: ∀F H U a w,StF N w0 H0 F H U a w→K F H U→Q .normal a w): ∀(fuel:Nat) (listed:Array Bool) (F:FEnv) (H:Heap) (U:Nat→Prop) (a:Act) (w:World),
  B3T P cs bs md ops K fuel listed F H U→StF N w0 H0 F H U a w→Go.wpAny P md ops Q fuel listed a w
 |0,_,F,H,U,a,w,h,hst=>⟨h.1,hQ _ _ _ _ _ hst h.2⟩
 |fuel+1,listed,F,H,U,a,w,h,hst=>⟨fun h0=>hQ _ _ _ _ _ hst (h.1 h0),fun i hi=>by
   have h1:=h.2 i hi
   unfold sE at h1
   unfold Go.wpOp
   split
   ·rename_i hn;simp only[hn]at h1;exact A1A hd hQ fuel _ _ _ _ _ _ h1 hst
   ·rename_i o ho
    simp only[ho]at h1
    have hmem:o∈ops.toList:=by rw[C94];exact Array.mem_of_getElem? ho
    rcases h1 with⟨hr,h1⟩|⟨hr,h1⟩
    ·rw[if_pos (A4O hst hr)]
     exact .inl (opSem.wp ((A9S (hd o hmem) h1 hst).mono fun v w' hv=>by
      obtain⟨F',H',U',hst',hk⟩:=hv
      exact A1A hd hQ fuel _ _ _ _ _ _ hk hst'))
    ·rw[if_neg (by rw[A4O hst hr];exact Bool.false_ne_true)]
     exact A1A hd hQ fuel _ _ _ _ _ _ h1 (hst.skip (hd o hmem))⟩
def wpP(P:Program)(gs:List (Option Nat))(cs:Nat→CR)(bs:Nat→Bl)(K:Env→Heap→Prop):Nat→List Oper→Env→Heap→Prop
 |_,[],E,H=>K E H
 |i,o::l,E,H=>match o.guard with
  |none=>∃e,j4 P (cs i) (bs i).l E.ev H o.op=some e∧A5Z (bs i) H e∧N9 P (cs i) (bs i).l E.ev H o.op∧∀b,e.okH b H→wpP P gs cs bs K (i+1) l (E.put o.dst (e.val b)) (e.app b H)
  |some (j,want)=>A1e E (G9 gs j) want
    (fun E=>∃e,j4 P (cs i) (bs i).l E.ev H o.op=some e∧A5Z (bs i) H e∧N9 P (cs i) (bs i).l E.ev H o.op∧∀b,e.okH b H→wpP P gs cs bs K (i+1) l (E.put o.dst (e.val b)) (e.app b H))
    (fun E=>wpP P gs cs bs K (i+1) l (E.put o.dst (.tuple [])) H)
theorem A3v{gs:List (Option Nat)}{K:Env→Heap→Prop}: ∀(l:List Oper) (i:Nat) (E:Env) (F:FEnv) (H:Heap) (U:Nat→Prop),(∀t,E.get t=F t)→Dom H U→wpP P gs cs bs K i l E H→A6u P gs cs bs (fun F H _=>∃E,(∀t,E.get t=F t)∧K E H) i l F H U
 | [],i,E,F,H,U,hE,hD,h=>⟨E,hE,h⟩
 |o::l,i,E,F,H,U,hE,hD,h=>by
  have put: ∀(E:Env) (d:D),(∀t,E.get t=F t)→∀t,(E.put o.dst d).get t=(F.put o.dst d) t:=fun E d hE t=>by
   cases o.dst with
   |none=>exact hE t
   |some u=>
    simp only[Env.put,Env.get,FEnv.put]
    split
    ·rfl
    ·exact hE t
  have hev: ∀(E:Env),(∀t,E.get t=F t)→F.ev=E.ev:=fun E hE=>by
   funext x
   cases x with
   |tmp t=>exact(hE t).symm
   |_=>rfl
  have run: ∀(E:Env),(∀t,E.get t=F t)→(∃e,j4 P (cs i) (bs i).l E.ev H o.op=some e∧A5Z (bs i) H e∧N9 P (cs i) (bs i).l E.ev H o.op∧∀b,e.okH b H→wpP P gs cs bs K (i+1) l (E.put o.dst (e.val b)) (e.app b H))→
    A0F P (cs i) (bs i) o (A6u P gs cs bs (fun F H _=>∃E,(∀t,E.get t=F t)∧K E H) (i+1) l) F H U:=fun E hE h=>by
   obtain⟨e,he,hok,hcall,hk⟩:=h
   exact⟨e,by rw[hev E hE];exact he,hok,by rw[hev E hE];exact hcall,fun b hb=>A3v l (i+1) (E.put o.dst (e.val b)) _ _ _ (put E _ hE) (hD.app hb) (hk b (C1d hD hb))⟩
  have skip: ∀(E:Env),(∀t,E.get t=F t)→wpP P gs cs bs K (i+1) l (E.put o.dst (.tuple [])) H→A6u P gs cs bs (fun F H _=>∃E,(∀t,E.get t=F t)∧K E H) (i+1) l (F.put o.dst (.tuple [])) H U:=fun E hE h=>
   A3v l (i+1) (E.put o.dst (.tuple [])) _ _ _ (put E _ hE) hD h
  have know: ∀(E:Env) (s:Nat) (d:D),(∀t,E.get t=F t)→E.get s=d→∀t,Env.get ((s,d)::E) t=F t:=fun E s d hE hs t=>by
   simp only[Env.get]
   split
   ·rename_i e;subst e;rw[←hs];exact hE s
   ·exact hE t
  unfold wpP at h
  unfold A6u
  cases hg:o.guard with
  |none=>
   rw[hg]at h
   exact .inl ⟨by rw[hg];rfl,run E hE h⟩
  |some jw=>
   obtain⟨j,want⟩:=jw
   rw[hg]at h
   simp only[]at h
   unfold A1e at h
   cases hs:G9 gs j with
   |none=>
    rw[hs]at h
    exact .inr ⟨by rw[hg];simp only[A1f,hs],skip E hE h⟩
   |some s=>
    rw[hs]at h
    rcases h with⟨hu,h⟩|⟨b,hb,h1,h2⟩
    ·have hF:F s= .tuple []:=by rw[←hE];exact hu
     exact .inr ⟨by rw[hg];simp only[A1f,hs,hF],skip E hE h⟩
    ·have hF:F s= .bool b:=by rw[←hE];exact hb
     by_cases hbw:b=want
     ·subst hbw
      exact .inl ⟨by rw[hg];simp only[A1f,hs,hF,beq_self_eq_true],run _ (know E s _ hE hb) (h1 rfl)⟩
     ·have hbn:b= !want:=by cases b<;>cases want<;>simp_all
      subst hbn
      exact .inr ⟨by rw[hg];simp only[A1f,hs,hF];cases want<;>rfl,skip _ (know E s _ hE hb) (h2 rfl)⟩
theorem C1e(n:Nat)(l:List Nat): ∃b,¬(b<n)∧b∉l:=by
 refine⟨n+l.sum+1,by omega,fun h=>?_⟩
 have: ∀(l:List Nat) (x:Nat),x∈l→x≤l.sum:=by
  intro l
  induction l with
  |nil=>intro x hx;cases hx
  |cons y l ih=>
   intro x hx
   rcases C9r.1 hx with rfl|hx
   ·simp
   ·have:=ih x hx;simp;omega
 have:=this l _ h
 omega
theorem A3w{w:World}(hs:Sat H w):Dom H (fun b=>b<w.heap.size):=⟨fun b hb=>by
 cases h:H b with
 |none=>exact absurd h hb
 |some o=>exact hs.lt h,C1e _⟩
theorem B4w{N:Nat}{w0:World}{H0:Heap}{id:Nat}{K:Env→Heap→Prop}{Q:Exit→Act→World→Prop}{a:Act}{w:World}{E:Env}(hm:P.follows .mixedOrders=true)(hok:B2C P ops=true)
  (hd: ∀o∈ops.toList,∀t,o.dst=some t→t<N)
  (hQ: ∀E H a w,a.tmps.size=N→a.defers= []→(∀i,R w H (E.get i) (a.eval (.tmp i)))→Sat H w→Ext H0 w0 w→From w0 H0 H→K E H→Q .normal a w)
  (h1:a.tmps.size=N) (h2:a.defers= []) (h3: ∀i,R w H (E.get i) (a.eval (.tmp i))) (h4:Sat H w) (h5:Ext H0 w0 w) (h6:From w0 H0 H)
  (hbs:B3V bs 0 ops.toList) (h:wpP P (O0 ops) cs bs K 0 ops.toList E H):(Code.region id ops true).wp P Q a w:=by
 have he:Ext H w {w with drawn:=w.drawn+1}:=Ext.drewN H w 1
 have hs1:=h4.same (w':={w with drawn:=w.drawn+1}) rfl he
 refine wp_region_any hm (A1A (P:=P) (cs:=cs) (bs:=bs) (md:=.any) (ops:=ops) (K:=fun F H _=>∃E,(∀t,E.get t=F t)∧K E H) hd (fun F H U a w hst hk=>?_) ops.size _ _ _ _ a {w with drawn:=w.drawn+1} ?_
  (⟨h1,h2,fun i=>(h3 i).mono he (D0w _ _),hs1,h5.trans h6 he,h6,A3w hs1,fun b hb=>hb⟩:StF N w0 H0 E.get H (fun b=>b<({w with drawn:=w.drawn+1}:World).heap.size) a {w with drawn:=w.drawn+1}))
 ·obtain⟨E,hE,hk⟩:=hk
  exact hQ E H a w hst.size hst.defers (fun i=>by rw[hE];exact hst.env i) hst.sat hst.ext hst.frm hk
 ·have:=A9R (P:=P) (cs:=cs) (bs:=bs) (ops:=ops) ops.toList 0 (Array.replicate ops.size false) (by simp) (by intro j;simp[Array.getElem?_replicate];split<;>rfl) (by simp) hok hbs E.get H _ (A3w hs1)
   (A3v ops.toList 0 E E.get H _ (fun _=>rfl) (A3w hs1) h)
  simpa using this
end
end Go.Av
end
section
namespace Go.Av
section
variable {P:Program} {H H':Heap} {ev ev':Operand→D} {bl:List Nat}
theorem A0k{op:Op}{K:D→Heap→Prop}(hc:I5 P op= .pure):D0 P ev H K op= ∃d,J9 P ev op=some d∧K d H:=by
 cases op
 case convert s t x=>simp only[D0,hc]
 case call cc=>
  obtain⟨callee,args,ats⟩:=cc
  cases callee with
  |value f=>simp[I5]at hc
  |invoke r m=>simp[I5]at hc
  |builtin b=>cases b<;>first|(simp only[D0,hc];done)|(simp[I5]at hc;done)
 all_goals first
  |rfl
  |(simp[I5]at hc;done)
  |(simp only[D0,hc];done)
theorem B08{op:Op}{K:D→Heap→Prop}(h: ∀x∈op.operands.toList,ev x=ev' x):D0 P ev H K op=D0 P ev' H K op:=by
 by_cases hc:I5 P op= .pure
 ·rw[A0k hc,A0k hc,A1d hc h]
 ·cases op
  case load t x=>simp only[D0,h x (by simp[Op.operands])]
  case store t a x=>simp only[D0,h a (by simp[Op.operands]),h x (by simp[Op.operands])]
  case box t x=>simp only[D0,h x (by simp[Op.operands])]
  case lookup t m k ok=>simp only[D0,h m (by simp[Op.operands]),h k (by simp[Op.operands])]
  case mapUpdate t m k x=>simp only[D0,h m (by simp[Op.operands]),h k (by simp[Op.operands]),h x (by simp[Op.operands])]
  case buildSlice t n parts=>simp only[D0,A5a (ev:=ev) (ev':=ev') (l:=parts.toList) (fun x hx=>h x (by simpa [Op.operands]using hx))]
  case makeSlice t l c=>simp only[D0,h l (by simp[Op.operands]),h c (by simp[Op.operands])]
  case range t x=>simp only[D0,h x (by simp[Op.operands])]
  case next x b=>simp only[D0,h x (by simp[Op.operands])]
  case entry x=>simp only[D0,h x (by simp[Op.operands])]
  case convert s t x=>
   have hx:=h x (by simp[Op.operands])
   have e1:A21 P ev H K s t x=A21 P ev' H K s t x:=by unfold A21;rw[hx]
   simp only[D0]
   exact e1
  case call cc=>
   obtain⟨callee,args,ats⟩:=cc
   cases callee with
   |value f=>
    have hf:=h f (by simp[Op.operands,Call.operands])
    have ha:=A2d (ev:=ev) (ev':=ev') (l:=args.toList) (fun x hx=>h x (by simp[Op.operands,Call.operands];exact .inr (by simpa using hx)))
    simp only[D0,hf,ha]
   |invoke r m=>simp only[D0]
   |builtin b=>
    cases b
    case append=>
     unfold D0
     simp only
     split
     ·rename_i t t' s x h1 h2
      have e1:=h s (by simp[Op.operands,Call.operands,←C94,h2])
      have e2:=h x (by simp[Op.operands,Call.operands,←C94,h2])
      unfold A04
      rw[e1,e2]
     ·rfl
    case len=>
     unfold D0
     simp only
     split
     ·rename_i x h2
      rw[h x (by simp[Op.operands,Call.operands,←C94,h2])]
     ·rfl
    all_goals
     unfold D0
     simp only
     try(split<;>first|rfl|(rename_i hh;exact absurd hh hc))
  case makeMap t r=>cases r<;>first|rfl|(unfold D0;simp only;try(split<;>first|rfl|(rename_i hh;exact absurd hh hc)))
  all_goals first
   |rfl
   |(unfold D0;simp only;try(split<;>first|rfl|(rename_i hh;exact absurd hh hc)))
theorem A3x{op:Op}{K K':D→Heap→Prop}(hK: ∀d H,K d H→K' d H)(h:D0 P ev H K op):D0 P ev H K' op:=by
 by_cases hc:I5 P op= .pure
 ·rw[A0k hc]at h⊢
  obtain⟨d,h1,h2⟩:=h
  exact⟨d,h1,hK _ _ h2⟩
 ·cases op
  case load t x=>obtain⟨d,h1,h2⟩:=h;exact⟨d,h1,hK _ _ h2⟩
  case store t a x=>obtain⟨d,h1,h2⟩:=h;exact⟨d,h1,hK _ _ h2⟩
  case box t x=>exact⟨h.1,fun b hb=>hK _ _ (h.2 b hb)⟩
  case alloc t=>obtain⟨z,h1,h2⟩:=h;exact⟨z,h1,fun b hb=>hK _ _ (h2 b hb)⟩
  case lookup t m k ok=>obtain⟨d,h1,h2⟩:=h;exact⟨d,h1,hK _ _ h2⟩
  case mapUpdate t m k x=>obtain⟨d,h1,h2⟩:=h;exact⟨d,h1,hK _ _ h2⟩
  case buildSlice t n parts=>obtain⟨e,sz,by_,z,es,h1,h2,h3,h4,h5,h6,h7⟩:=h;exact⟨e,sz,by_,z,es,h1,h2,h3,h4,h5,h6,fun b hb=>hK _ _ (h7 b hb)⟩
  case makeSlice t l c=>obtain⟨e,sz,by_,z,k,n,k',m,h1,h2,h3,h4,h5,h6,h7,h8,h9,h10,h11⟩:=h;exact⟨e,sz,by_,z,k,n,k',m,h1,h2,h3,h4,h5,h6,h7,h8,h9,h10,fun b hb=>hK _ _ (h11 b hb)⟩
  case range t x=>
   unfold D0 at h⊢
   simp only at h⊢
   split at h
   ·exact⟨h.1,fun b hb=>hK _ _ (h.2 b hb)⟩
   ·exact⟨h.1,fun b hb=>hK _ _ (h.2 b hb)⟩
   ·exact h.elim
  case next x b=>
   unfold D0 at h⊢
   simp only at h⊢
   split at h
   ·split at h
    ·rename_i h1 h2 _ _ _ _;exact⟨fun g=>hK _ _ (h.1 g),fun g=>hK _ _ (h.2 g)⟩
    ·exact h.elim
   ·split at h
    ·exact⟨fun i p g1 g2=>hK _ _ (h.1 i p g1 g2),fun g=>hK _ _ (h.2 g)⟩
    ·exact h.elim
   ·exact h.elim
  case entry x=>
   unfold D0 at h⊢
   simp only at h⊢
   split at h
   ·split at h
    ·obtain⟨i,p,g1,g2,g3⟩:=h;exact⟨i,p,g1,g2,hK _ _ g3⟩
    ·exact h.elim
   ·exact h.elim
  case convert s t x=>
   have e1:A21 P ev H K s t x→A21 P ev H K' s t x:=fun h=>by
    unfold A21 at h⊢
    split at h
    ·exact⟨h.1,h.2.1,fun b hb=>hK _ _ (h.2.2 b hb)⟩
    ·rcases h with⟨h1,h2,z,h3,h4⟩|⟨h1,h2,b,z,h3,h4,h5,h6⟩
     ·exact .inl ⟨h1,h2,z,h3,hK _ _ h4⟩
     ·exact .inr ⟨h1,h2,b,z,h3,h4,h5,hK _ _ h6⟩
   simp only[D0]at h⊢
   exact e1 h
  case call cc=>
   obtain⟨callee,args,ats⟩:=cc
   cases callee with
   |value f=>
    unfold D0 at h⊢
    simp only at h⊢
    split at h
    ·exact ACalls.mono h hK
    ·exact h.elim
   |invoke r m=>unfold D0 at h;simp only at h;try(split at h<;>first|exact h.elim|(rename_i hh;exact absurd hh hc))
   |builtin b=>
    cases b
    case append=>
     unfold D0 at h⊢
     simp only at h⊢
     split at h
     ·unfold A04 at h⊢
      obtain⟨e,sz,by_,h1,h2,h3,h4,xs,h5,h6⟩:=h
      refine⟨e,sz,by_,h1,h2,h3,h4,xs,h5,?_⟩
      split at h6
      ·exact⟨h6.1,h6.2.1,fun g=>hK _ _ (h6.2.2.1 g),fun g b hb=>hK _ _ (h6.2.2.2 g b hb)⟩
      ·refine⟨h6.1,?_⟩
       rcases h6.2 with⟨g1,es,g2,g3,g4,g5,g6⟩|⟨es,g2,g3,g4,g5,g6⟩
       ·exact .inl ⟨g1,es,g2,g3,g4,g5,fun b' hb'=>hK _ _ (g6 b' hb')⟩
       ·exact .inr ⟨es,g2,g3,g4,g5,fun b' pre hb'=>hK _ _ (g6 b' pre hb')⟩
      ·exact h6.elim
     ·exact h.elim
    case len=>
     have e1:(match args.toList with| [x]=>∃kvs,W5 H (ev x)=some kvs∧K (.int .i64 kvs.length) H|_=>False)→(match args.toList with| [x]=>∃kvs,W5 H (ev x)=some kvs∧K' (.int .i64 kvs.length) H|_=>False):=fun h=>by
      split at h
      ·obtain⟨kvs,h1,h2⟩:=h;exact⟨kvs,h1,hK _ _ h2⟩
      ·exact h.elim
     unfold D0 at h⊢
     simp only at h⊢
     exact e1 h
    all_goals
     unfold D0 at h
     simp only at h
     try(split at h<;>first|exact h.elim|(rename_i hh;exact absurd hh hc))
  case makeMap t r=>
   cases r with
   |none=>exact fun b hb=>hK _ _ (h b hb)
   |some x=>unfold D0 at h;simp only at h;try(split at h<;>first|exact h.elim|(rename_i hh;exact absurd hh hc))
  all_goals (unfold D0 at h;simp only at h;try(split at h<;>first|exact h.elim|(rename_i hh;exact absurd hh hc)))
def B4x(bl:List Nat)(ev:Operand→D):Op→Prop
 | .load _ x=>∀b∈rdB (ev x),b∈bl
 |_=>False
abbrev Kg:=FEnv→Heap→Prop
def A7t(P:Program)(bl:List Nat)(o:Oper)(K:Kg)(F:FEnv)(H:Heap):Prop:=
 o.guard=none∧(I5 P o.op= .load→B4x bl F.ev o.op)∧D0 P F.ev H (fun d H'=>(∀k∈bl,H' k=H k)∧K (F.put o.dst d) H') o.op
theorem B3X{o:Oper}{K K':Kg}(h: ∀F H,K F H→K' F H){F:FEnv}{H:Heap}(hk:A7t P bl o K F H):A7t P bl o K' F H:=
 ⟨hk.1,hk.2.1,A3x (fun d H' g=>⟨g.1,h _ _ g.2⟩) hk.2.2⟩
def Yld(P:Program)(bl:List Nat)(o:Oper)(d:D)(F:FEnv)(H:Heap):Prop:=
 (I5 P o.op= .pure∧J9 P F.ev o.op=some d)∨∃t x,o.op= .load t x∧(∀b∈rdB (F.ev x),b∈bl)∧s8 P t (F.ev x) H=some d
theorem C1f{o:Oper}{K:Kg}{F:FEnv}{H:Heap}(hc:I5 P o.op≠ .eff)(h:A7t P bl o K F H):o.guard=none∧∃d,Yld P bl o d F H∧K (F.put o.dst d) H:=by
 obtain⟨h1,h2,h3⟩:=h
 refine⟨h1,?_⟩
 cases hcl:I5 P o.op with
 |pure=>
  rw[A0k hcl]at h3
  obtain⟨d,h4,_,h5⟩:=h3
  exact⟨d,.inl ⟨hcl,h4⟩,h5⟩
 |load=>
  have hr:=h2 hcl
  obtain⟨dst,op,ty,pos,after,guard⟩:=o
  cases op<;>try exact hr.elim
  rename_i t x
  obtain⟨d,h4,_,h5⟩:=h3
  exact⟨d,.inr ⟨t,x,rfl,hr,h4⟩,h5⟩
 |eff=>exact absurd hcl hc
theorem A5b{o:Oper}{K:Kg}{F:FEnv}{H:Heap}{d:D}(hg:o.guard=none)(hy:Yld P bl o d F H)(h:K (F.put o.dst d) H):A7t P bl o K F H:=by
 rcases hy with⟨hc,hp⟩|⟨t,x,ho,hr,hl⟩
 ·refine⟨hg,(fun g=>by rw[hc]at g;cases g),?_⟩
  rw[A0k hc]
  exact⟨d,hp,fun _ _=>rfl,h⟩
 ·refine⟨hg,fun _=>by rw[ho];exact hr,?_⟩
  rw[ho]
  exact⟨d,hl,fun _ _=>rfl,h⟩
theorem Yld.keep{ops:Array Oper}{o:Oper}{d:D}{F:FEnv}{H H':Heap}{dst:Option Tmp}{e:D}(h:Yld P bl o d F H)(hap: ∀t,dst=some t→t∉o.looksAt ops)(hH: ∀k∈bl,H' k=H k):Yld P bl o d (F.put dst e) H':=by
 have hev:=P5 (F:=F) (ops:=ops) (o:=o) (dst:=dst) (d:=e) hap
 rcases h with⟨hc,hp⟩|⟨t,x,ho,hr,hl⟩
 ·exact .inl ⟨hc,by rw[A1d hc hev];exact hp⟩
 ·have hx:=hev x (by rw[ho];simp[Op.operands])
  refine .inr ⟨t,x,ho,by rw[hx];exact hr,?_⟩
  rw[hx]
  unfold s8 at hl⊢
  obtain⟨s,hs,hl⟩:=C9b.1 hl
  obtain⟨cs,hc,hl⟩:=C9b.1 hl
  rw[hs,C9t,A6s hc (fun b hb=>hH b (hr b hb)),C9t]
  exact hl
section
variable {ops:Array Oper} {md:Region.Mode}
def sG(P:Program)(bl:List Nat)(ops:Array Oper)(i:Nat)(K:Kg):Kg:=match ops[i]? with
 |none=>K
 |some o=>A7t P bl o K
def A9T(P:Program)(bl:List Nat)(md:Region.Mode)(ops:Array Oper)(K:Kg):Nat→Array Bool→Kg
 |0,listed=>fun F H=>Region.ready md ops listed= []∧K F H
 |fuel+1,listed=>fun F H=>(Region.ready md ops listed= []→K F H)∧∀i∈Region.ready md ops listed,sG P bl ops i (A9T P bl md ops K fuel (listed.setIfInBounds i true)) F H
theorem B09{K:Kg}{i:Nat}{oi:Oper}{d:D}{W:Nat→Prop}(hi:ops[i]? =some oi)(hgi:oi.guard=none)(hW:Closed md ops i W):
  ∀(fuel:Nat) (listed:Array Bool) (F:FEnv) (H:Heap),(∀j,W j→listed.getD j false=false)→
   (∀j oj,ops[j]? =some oj→¬W j→listed.getD j true=false→oi.apart ops oj=true)→
   i∈Region.ready md ops listed→Yld P bl oi d F H→A9T P bl md ops K fuel (listed.setIfInBounds i true) (F.put oi.dst d) H→A9T P bl md ops K (fuel+1) listed F H:=by
 intro fuel
 induction fuel with
 |zero=>
  intro listed F H _ _ hr hy h
  refine⟨fun h0=>(by rw[h0]at hr;cases hr),fun j hj=>?_⟩
  by_cases hji:j=i
  ·subst hji;unfold sG;simp only[hi];exact A5b hgi hy h
  ·have:=ready_mono hj hji
   rw[h.1]at this
   cases this
 |succ fuel ih=>
  intro listed F H hun hfree hr hy h
  refine⟨fun h0=>(by rw[h0]at hr;cases hr),fun j hj=>?_⟩
  by_cases hji:j=i
  ·subst hji;unfold sG;simp only[hi];exact A5b hgi hy h
  ·obtain⟨hjun,oj,hoj,_⟩:=mem_ready.1 hj
   have hnW:=hW.not_ready hun hj hji
   have hap:=hfree j oj hoj hnW hjun
   obtain⟨a1,a2,a3⟩:=Oper.apart_spec hap
   have hun': ∀k,W k→(listed.setIfInBounds j true).getD k false=false:=fun k hk=>by
    rw[U5 (fun e:j=k=>hnW (by rw[e];exact hk))];exact hun k hk
   have hfree': ∀k ok,ops[k]? =some ok→¬W k→(listed.setIfInBounds j true).getD k true=false→oi.apart ops ok=true:=fun k ok hk hnk hu=>by
    refine hfree k ok hk hnk ?_
    by_cases hjk:j=k
    ·subst hjk;exact hjun
    ·rw[getD_set_ne true hjk]at hu;exact hu
   have h1:=h.2 j (ready_mono hj hji)
   unfold sG at h1⊢
   simp only[hoj]at h1⊢
   obtain⟨g1,g2,g3⟩:=h1
   have hev:=P5 (F:=F) (ops:=ops) (o:=oj) (dst:=oi.dst) (d:=d) a1
   refine⟨g1,fun hl=>?_,?_⟩
   ·have hr2:=g2 hl
    have key: ∀op:Op,(∀x∈op.operands.toList,(F.put oi.dst d).ev x=F.ev x)→B4x bl (F.put oi.dst d).ev op→B4x bl F.ev op:=fun op hv hr=>by
     cases op with
     |load t x=>
      have hx:=hv x (by simp[Op.operands])
      show∀b∈rdB (F.ev x),b∈bl
      rw[←hx];exact hr
     |_=>exact hr.elim
    exact key _ hev hr2
   ·rw[B08 hev]at g3
    refine A3x (fun e H' hk=>⟨hk.1,ih (listed.setIfInBounds j true) (F.put oj.dst e) H' hun' hfree' (ready_mono hr (Ne.symm hji)) (hy.keep a3 hk.1) ?_⟩) g3
    rw[Array.setIfInBounds_comm _ _ hji,←A1g a2]
    exact hk.2
theorem B3Y{K:Kg}{i:Nat}{oi:Oper}{W:Nat→Prop}(hi:ops[i]? =some oi)(hW:Closed md ops i W)(fuel:Nat)(listed:Array Bool)(F:FEnv)(H:Heap)(hun: ∀j,W j→listed.getD j false=false)
  (hall: ∀j oj,ops[j]? =some oj→listed.getD j true=false→W j) (hr:i∈Region.ready md ops listed) (h:A7t P bl oi (A9T P bl md ops K fuel (listed.setIfInBounds i true)) F H):A9T P bl md ops K (fuel+1) listed F H:=by
 refine⟨fun h0=>(by rw[h0]at hr;cases hr),fun j hj=>?_⟩
 by_cases hji:j=i
 ·subst hji;unfold sG;simp only[hi];exact h
 ·obtain⟨hjun,oj,hoj,_⟩:=mem_ready.1 hj
  exact absurd (hall j oj hoj hjun) (hW.not_ready hun hj hji)
def C0X(ops:Array Oper)(i:Nat)(acc:List Nat)(j:Nat):Bool:=match ops[j]? with
 |some o=>o.after.any fun e=>Region.binds .any e&&(e.on==i||acc.contains e.on)
 |none=>false
def A4P(ops:Array Oper)(i:Nat):List Nat→List Nat→List Nat
 | [],acc=>acc
 |j::l,acc=>A4P ops i l (if C0X ops i acc j=true then j::acc else acc)
def J3(P:Program)(ops:Array Oper):List Nat→List Nat→Bool
 | [],done=>(List.range ops.size).all fun i=>done.contains i
 |i::l,done=>(match ops[i]? with
  |some o=>(o.after.all fun e=> !Region.binds .any e||done.contains e.on)&&o.guard.isNone&& !done.contains i&& !l.contains i&&
    l.all fun j=>(A4P ops i l []).contains j||(I5 P o.op != .eff&&match ops[j]? with|some oj=>o.apart ops oj|none=>false)
  |none=>false)&&J3 P ops l (i::done)
def B4y(P:Program)(ops:Array Oper)(perm:List Nat):Bool:=decide (perm.length=ops.size)&&J3 P ops perm []
theorem A1B{i:Nat}: ∀(l acc:List Nat),(∀j∈acc,∃oj,ops[j]? =some oj∧∃e∈oj.after,Region.binds .any e=true∧(e.on=i∨e.on∈acc))→
  (∀j∈A4P ops i l acc,∃oj,ops[j]? =some oj∧∃e∈oj.after,Region.binds .any e=true∧(e.on=i∨e.on∈A4P ops i l acc))∧(∀j∈acc,j∈A4P ops i l acc)∧∀j∈A4P ops i l acc,j∈acc∨j∈l
 | [],acc,h=>⟨h,fun j hj=>hj,fun j hj=>.inl hj⟩
 |k::l,acc,h=>by
  unfold A4P
  split
  ·rename_i hc
   have hc2: ∃oj,ops[k]? =some oj∧∃e∈oj.after,Region.binds .any e=true∧(e.on=i∨e.on∈acc):=by
    unfold C0X at hc
    split at hc
    ·rename_i o ho
     obtain⟨e,he,hb⟩:=Array.any_eq_true'.1 hc
     simp only[C9c,D0m,beq_iff_eq,List.contains_iff_mem]at hb
     exact⟨o,ho,e,he,hb.1,hb.2⟩
    ·cases hc
   obtain⟨h1,h2,h3⟩:=A1B l (k::acc) (fun j hj=>by
    rcases C9r.1 hj with rfl|hj
    ·obtain⟨oj,a,e,b,c,d⟩:=hc2;exact⟨oj,a,e,b,c,d.imp id (C9h _)⟩
    ·obtain⟨oj,a,e,b,c,d⟩:=h j hj;exact⟨oj,a,e,b,c,d.imp id (C9h _)⟩)
   exact⟨h1,fun j hj=>h2 j (C9h _ hj),fun j hj=>by
    rcases h3 j hj with g|g
    ·rcases C9r.1 g with rfl|g
     ·exact .inr (C9a ..)
     ·exact .inl g
    ·exact .inr (C9h _ g)⟩
  ·obtain⟨h1,h2,h3⟩:=A1B l acc h
   exact⟨h1,h2,fun j hj=>(h3 j hj).imp id (C9h _)⟩
def A9U(P:Program)(bl:List Nat)(ops:Array Oper)(K:Kg):List Nat→Kg
 | []=>K
 |i::l=>sG P bl ops i (A9U P bl ops K l)
theorem B3Z{K:Kg}: ∀(l done:List Nat) (listed:Array Bool),(∀j,listed.getD j false=true↔j∈done)→listed.size=ops.size→J3 P ops l done=true→
  ∀F H,A9U P bl ops K l F H→A9T P bl .any ops K l.length listed F H:=by
 intro l
 induction l with
 |nil=>
  intro done listed hL hsz hok F H h
  refine⟨?_,h⟩
  cases hr:Region.ready .any ops listed with
  |nil=>rfl
  |cons x xs=>
   exfalso
   have hx:x∈Region.ready .any ops listed:=by rw[hr];simp
   obtain⟨h0,o,ho,_⟩:=mem_ready.1 hx
   have hlt:=(C9o.1 ho).1
   simp only[J3,C90,List.mem_range,List.contains_iff_mem]at hok
   have:=(hL x).2 (hok x hlt)
   rw[J2 h0]at this
   cases this
 |cons i l ih=>
  intro done listed hL hsz hok F H h
  simp only[J3,C9c]at hok
  obtain⟨hok,hnext⟩:=hok
  cases hi:ops[i]? with
  |none=>rw[hi]at hok;cases hok
  |some oi=>
  rw[hi]at hok
  simp only[C9c,Bool.not_eq_true',Option.isNone_iff_eq_none,C90,D0m,List.contains_iff_mem,bne_iff_ne,ne_eq]at hok
  obtain⟨⟨⟨⟨he,hg⟩,hnd⟩,hnl⟩,hrest⟩:=hok
  have hilt:=(C9o.1 hi).1
  have hnd':i∉done:=fun g=>by rw[List.contains_iff_mem.2 g]at hnd;cases hnd
  have hnl':i∉l:=fun g=>by rw[List.contains_iff_mem.2 g]at hnl;cases hnl
  have hready:i∈Region.ready .any ops listed:=by
   rw[mem_ready]
   refine⟨?_,oi,hi,fun e hem hb=>?_⟩
   ·have hf:listed.getD i false=false:=by
     cases hh:listed.getD i false with
     |false=>rfl
     |true=>exact absurd ((hL i).1 hh) hnd'
    have hks:i<listed.size:=by omega
    simp[hks]at hf⊢
    exact hf
   ·rw[hL]
    rw[Array.all_eq_true_iff_forall_mem]at he
    have:=he e hem
    simpa [hb]using this
  have hL': ∀j,(listed.setIfInBounds i true).getD j false=true↔j∈i::done:=fun j=>by
   by_cases hij:i=j
   ·subst hij
    have hks:i<listed.size:=by omega
    simp[hks]
   ·rw[getD_set_ne false hij,hL]
    simp[Ne.symm hij]
  have hsz':(listed.setIfInBounds i true).size=ops.size:=by simpa using hsz
  obtain⟨w1,_,w3⟩:=A1B (ops:=ops) (i:=i) l [] (fun j hj=>by cases hj)
  let W:Nat→Prop:=fun j=>j=i∨j∈A4P ops i l []
  have hWc:Closed .any ops i W:=by
   refine⟨.inl rfl,fun j oj hj hne hoj=>?_⟩
   rcases hj with hj|hj
   ·exact absurd hj hne
   ·obtain⟨oj',a,e,b,c,d⟩:=w1 j hj
    rw[hoj]at a;cases a
    exact⟨e,b,c,d⟩
  --what comes later is not listed
  have hlater: ∀(l done:List Nat),J3 P ops l done=true→∀j∈l,j∉done:=by
   intro l
   induction l with
   |nil=>intro _ _ j hj;cases hj
   |cons k l ihl=>
    intro done hok j hj
    simp only[J3,C9c]at hok
    obtain⟨hok,hnx⟩:=hok
    rcases C9r.1 hj with rfl|hj
    ·split at hok
     ·simp only[C9c,Bool.not_eq_true']at hok
      intro g
      rw[List.contains_iff_mem.2 g]at hok
      simp at hok
     ·cases hok
    ·exact fun g=>ihl (k::done) hnx j hj (C9h _ g)
  have hun: ∀j,W j→listed.getD j false=false:=fun j hj=>by
   cases hh:listed.getD j false with
   |false=>rfl
   |true=>
    have hd:=(hL j).1 hh
    rcases hj with rfl|hj
    ·exact absurd hd hnd'
    ·rcases w3 j hj with g|g
     ·cases g
     ·exact absurd (C9h _ hd) (hlater l (i::done) hnext j g)
  --all that is not listed stands in the list
  have hcover: ∀(l done:List Nat),J3 P ops l done=true→∀j,j<ops.size→j∈done∨j∈l:=by
   intro l
   induction l with
   |nil=>
    intro done hok j hj
    simp only[J3,C90,List.mem_range,List.contains_iff_mem]at hok
    exact .inl (hok j hj)
   |cons k l ihl=>
    intro done hok j hj
    simp only[J3,C9c]at hok
    rcases ihl (k::done) hok.2 j hj with g|g
    ·rcases C9r.1 g with rfl|g
     ·exact .inr (C9a ..)
     ·exact .inl g
    ·exact .inr (C9h _ g)
  have hwhere: ∀j oj,ops[j]? =some oj→listed.getD j true=false→j=i∨j∈l:=fun j oj hoj hu=>by
   have hlt:=(C9o.1 hoj).1
   have hf:=J2 hu
   rcases hcover l (i::done) hnext j hlt with g|g
   ·rcases C9r.1 g with rfl|g
    ·exact .inl rfl
    ·rw[(hL j).2 g]at hf;cases hf
   ·exact .inr g
  have hst:A7t P bl oi (A9T P bl .any ops K l.length (listed.setIfInBounds i true)) F H:=by
   have h':A7t P bl oi (A9U P bl ops K l) F H:=by
    have:sG P bl ops i (A9U P bl ops K l) F H:=h
    unfold sG at this
    simp only[hi]at this
    exact this
   exact B3X (fun F' H' g=>ih (i::done) _ hL' hsz' hnext F' H' g) h'
  by_cases hc:I5 P oi.op= .eff
  ·refine B3Y hi hWc l.length listed F H hun (fun j oj hoj hu=>?_) hready hst
   rcases hwhere j oj hoj hu with rfl|hjl
   ·exact .inl rfl
   ·rcases hrest j hjl with g|g
    ·exact .inr g
    ·exact absurd hc g.1
  ·obtain⟨hgi,d,hy,hK⟩:=C1f hc hst
   refine B09 hi hgi hWc l.length listed F H hun (fun j oj hoj hnW hu=>?_) hready hy hK
   rcases hwhere j oj hoj hu with rfl|hjl
   ·exact absurd (.inl rfl) hnW
   ·rcases hrest j hjl with g|g
    ·exact absurd (.inr g) hnW
    ·have:=g.2
     rw[hoj]at this
     exact this
structure StO(N:Nat)(w0:World)(H0:Heap)(F:FEnv)(H:Heap)(a:Act)(w:World):Prop where
 size:a.tmps.size=N
 defers:a.defers= []
 env: ∀i,R w H (F i) (a.eval (.tmp i))
 sat:Sat H w
 ext:Ext H0 w0 w
 frm:From w0 H0 H
theorem StO.evR{N:Nat}{w0:World}{H0:Heap}{F:FEnv}{a:Act}{w:World}(h:StO N w0 H0 F H a w)(x:Operand):R w H (F.ev x) (a.eval x):=by
 cases x with
 |tmp t=>exact h.env t
 |const v=>exact A15 w H v
 |global g=>exact .glob g
 |func f=>exact .fn _ _ _ _ _ rfl rfl (by simp) (by simp)
theorem B1A{N:Nat}{w0:World}{H0:Heap}{o:Oper}{K:Kg}{F:FEnv}{a:Act}{w:World}(hd: ∀t,o.dst=some t→t<N)(h:A7t P bl o K F H)(hst:StO N w0 H0 F H a w):
  opSem P none o a w fun v w'=>∃F' H',StO N w0 H0 F' H' (a.put o.dst v) w'∧K F' H':=by
 refine(N0 (o:=o) hst.sat hst.evR h.2.2).mono fun v w' hp=>?_
 obtain⟨d,H',hR,hS,hE,hF,_,hk⟩:=hp
 refine⟨F.put o.dst d,H',⟨?_,?_,fun i=>?_,hS,hst.ext.trans hst.frm hE,hst.frm.trans hst.ext.size hF⟩,hk⟩
 ·cases hdst:o.dst<;>simp[Act.put,hst.size]
 ·cases hdst:o.dst<;>simp[Act.put,hst.defers]
 ·cases hdst:o.dst with
  |none=>exact(hst.env i).mono hE hF
  |some t=>
   have ht:=hd t hdst
   simp only[FEnv.put]
   by_cases hti:t=i
   ·subst hti
    rw[if_pos rfl]
    have:(a.put (some t) v).eval (.tmp t)=v:=by
     have h':t<a.tmps.size:=by rw[hst.size];exact ht
     simp[Act.eval,Act.put,h']
    rw[this];exact hR
   ·rw[if_neg hti]
    have:(a.put (some t) v).eval (.tmp i)=a.eval (.tmp i):=by
     simp[Act.eval,Act.put,C93 hti]
    rw[this];exact(hst.env i).mono hE hF
theorem A2g{N:Nat}{w0:World}{H0:Heap}{K:Kg}{Q:Exit→Act→World→Prop}(hd: ∀o∈ops.toList,∀t,o.dst=some t→t<N)
  (hQ: ∀F H a w,StO N w0 H0 F H a w→K F H→Q .normal a w): ∀(fuel:Nat) (listed:Array Bool) (F:FEnv) (H:Heap) (a:Act) (w:World),
  A9T P bl md ops K fuel listed F H→StO N w0 H0 F H a w→Go.wpAny P md ops Q fuel listed a w
 |0,_,F,H,a,w,h,hst=>⟨h.1,hQ _ _ _ _ hst h.2⟩
 |fuel+1,listed,F,H,a,w,h,hst=>⟨fun h0=>hQ _ _ _ _ hst (h.1 h0),fun i hi=>by
   have h1:=h.2 i hi
   unfold sG at h1
   unfold Go.wpOp
   split
   ·rename_i hn;simp only[hn]at h1;exact A2g hd hQ fuel _ _ _ _ _ h1 hst
   ·rename_i o ho
    simp only[ho]at h1
    have hmem:o∈ops.toList:=by rw[C94];exact Array.mem_of_getElem? ho
    rw[if_pos (by simp[Region.wanted,h1.1])]
    exact .inl (opSem.wp ((B1A (hd o hmem) h1 hst).mono fun v w' hv=>by
     obtain⟨F',H',hst',hk⟩:=hv
     exact A2g hd hQ fuel _ _ _ _ _ hk hst'))⟩
def A1h:List Oper→Nat→Option Oper
 | [],_=>none
 |o::_,0=>some o
 |_::l,i+1=>A1h l i
theorem A9V: ∀(l:List Oper) (i:Nat),A1h l i=l[i]?
 | [],_=>rfl
 |_::_,0=>rfl
 |_::l,i+1=>by rw[A1h,A9V l i];rfl
def wpG(P:Program)(bl:List Nat)(K:Env→Heap→Prop):List (Option Oper)→Env→Heap→Prop
 | [],E,H=>K E H
 |none::l,E,H=>False
 |some o::l,E,H=>(I5 P o.op= .load→B4x bl E.ev o.op)∧D0 P E.ev H (fun d H'=>(∀k∈bl,H' k=H k)∧wpG P bl K l (E.put o.dst d) H') o.op
theorem A9W{K:Env→Heap→Prop}(hg: ∀(i:Nat) (o:Oper),ops[i]? =some o→o.guard=none): ∀(l:List Nat) (E:Env) (F:FEnv) (H:Heap),(∀t,E.get t=F t)→wpG P bl K (l.map (A1h ops.toList)) E H→
  A9U P bl ops (fun F H=>∃E,(∀t,E.get t=F t)∧K E H) l F H
 | [],E,F,H,hE,h=>⟨E,hE,h⟩
 |i::l,E,F,H,hE,h=>by
  have hev:F.ev=E.ev:=by
   funext x
   cases x with
   |tmp t=>exact(hE t).symm
   |_=>rfl
  show sG P bl ops i _ F H
  unfold sG
  rw[D0g,A9V,Array.getElem?_toList]at h
  cases hi:ops[i]? with
  |none=>rw[hi]at h;exact h.elim
  |some o=>
   rw[hi]at h
   obtain⟨h1,h2⟩:=h
   simp only
   refine⟨hg i o hi,by rw[hev];exact h1,?_⟩
   rw[hev]
   refine A3x (fun d H' hk=>⟨hk.1,A9W hg l (E.put o.dst d) _ H' (fun t=>?_) hk.2⟩) h2
   cases o.dst with
   |none=>exact hE t
   |some u=>
    simp only[Env.put,Env.get,FEnv.put]
    split
    ·rfl
    ·exact hE t
theorem A4Q: ∀(l done:List Nat),J3 P ops l done=true→∀(i:Nat) (o:Oper),i∈l→ops[i]? =some o→o.guard=none
 | [],_,_,i,_,hi,_=>by cases hi
 |k::l,done,h,i,o,hi,ho=>by
  simp only[J3,C9c]at h
  rcases C9r.1 hi with rfl|hi
  ·rw[ho]at h
   simp only[C9c,Option.isNone_iff_eq_none]at h
   exact h.1.1.1.1.2
  ·exact A4Q l (k::done) h.2 i o hi ho
theorem okOrd_cover: ∀(l done:List Nat),J3 P ops l done=true→∀j,j<ops.size→j∈done∨j∈l
 | [],done,h,j,hj=>by
  simp only[J3,C90,List.mem_range,List.contains_iff_mem]at h
  exact .inl (h j hj)
 |k::l,done,h,j,hj=>by
  simp only[J3,C9c]at h
  rcases okOrd_cover l (k::done) h.2 j hj with g|g
  ·rcases C9r.1 g with rfl|g
   ·exact .inr (C9a ..)
   ·exact .inl g
  ·exact .inr (C9h _ g)
theorem B4z{N:Nat}{w0:World}{H0:Heap}{id:Nat}{perm:List Nat}{K:Env→Heap→Prop}{Q:Exit→Act→World→Prop}{a:Act}{w:World}{E:Env}(hm:P.follows .mixedOrders=true)(hok:B4y P ops perm=true)
  (hd: ∀o∈ops.toList,∀t,o.dst=some t→t<N)
  (hQ: ∀E H a w,a.tmps.size=N→a.defers= []→(∀i,R w H (E.get i) (a.eval (.tmp i)))→Sat H w→Ext H0 w0 w→From w0 H0 H→K E H→Q .normal a w)
  (h1:a.tmps.size=N) (h2:a.defers= []) (h3: ∀i,R w H (E.get i) (a.eval (.tmp i))) (h4:Sat H w) (h5:Ext H0 w0 w) (h6:From w0 H0 H)
  (h:wpG P bl K (perm.map (A1h ops.toList)) E H):(Code.region id ops true).wp P Q a w:=by
 simp only[B4y,C9c,C9l]at hok
 obtain⟨hlen,hok⟩:=hok
 have hg: ∀(i:Nat) (o:Oper),ops[i]? =some o→o.guard=none:=fun i o ho=>by
  rcases okOrd_cover perm [] hok i (C9o.1 ho).1 with g|g
  ·cases g
  ·exact A4Q perm [] hok i o g ho
 have he:Ext H w {w with drawn:=w.drawn+1}:=Ext.drewN H w 1
 have hs1:=h4.same (w':={w with drawn:=w.drawn+1}) rfl he
 refine wp_region_any hm ?_
 rw[←hlen]
 refine A2g (P:=P) (bl:=bl) (md:=.any) (ops:=ops) (N:=N) (w0:=w0) (H0:=H0) (K:=fun F H=>∃E,(∀t,E.get t=F t)∧K E H) hd (fun F H a w hst hk=>?_) perm.length _ E.get H a _ ?_ ?_
 ·obtain⟨E,hE,hk⟩:=hk
  exact hQ E H a w hst.size hst.defers (fun i=>by rw[hE];exact hst.env i) hst.sat hst.ext hst.frm hk
 ·exact B3Z perm [] _ (fun j=>by simp[Array.getElem?_replicate];split<;>simp) (by simp[hlen]) hok E.get H (A9W hg perm E E.get H (fun _=>rfl) h)
 ·exact⟨h1,h2,fun i=>(h3 i).mono he (D0w _ _),hs1,h5.trans h6 he,h6⟩
end
end
end Go.Av
end
section
namespace Go.Av
inductive AX where
 |normal
 |exit (id:Nat)
 |ret
def wpOps(P:Program)(gs:List (Option Nat))(K:Env→Heap→Prop):List Oper→Env→Heap→Prop
 | [],E,H=>K E H
 |o::l,E,H=>match o.guard with
  |none=>D0 P E.ev H (fun d H'=>wpOps P gs K l (E.put o.dst d) H') o.op
  |some (j,want)=>A1e E (G9 gs j) want (fun E=>D0 P E.ev H (fun d H'=>wpOps P gs K l (E.put o.dst d) H') o.op) (fun E=>wpOps P gs K l (E.put o.dst (.tuple [])) H)
structure St(N:Nat)(w0:World)(H0:Heap)(E:Env)(H:Heap)(a:Act)(w:World):Prop where
 size:a.tmps.size=N
 defers:a.defers= []
 env: ∀i,R w H (E.get i) (a.eval (.tmp i))
 sat:Sat H w
 ext:Ext H0 w0 w
 frm:From w0 H0 H
def A1C(E0:Env)(H0:Heap)(E:Env)(H:Heap):Prop:=∀(N:Nat) (w0:World) (Hz:Heap) (a:Act) (w:World),St N w0 Hz E H a w→St N w0 Hz E0 H0 a w
def B2D(body:(Env→Heap→Prop)→Env→Heap→Prop)(E:Env)(H:Heap):Prop:=
 ∃(I:Nat→Env→Heap→Prop),(∃n E0 H0,A1C E0 H0 E H∧I n E0 H0)∧∀n E H,I n E H→body (fun E' H'=>∃m E0 H0,m<n∧A1C E0 H0 E' H'∧I m E0 H0) E H
def Env.fix(E:Env)(c:Operand)(b:Bool):Env:=match c with
 | .tmp t=>(t,.bool b)::E
 |_=>E
inductive Rc where
 |rd (sx:Bool)
 |par
 |ord (perm:List Nat)
 |rg
 |wk
def A0T(id:Nat):List (Nat×Rc)→Option Rc
 | []=>none
 |(i,sx)::Z=>if id=i then some sx else A0T id Z
def A7u(P:Program)(sx:Bool)(bl:List Nat)(K:Env→Heap→Prop):List Oper→Env→Heap→Prop
 | [],E,H=>K E H
 |o::l,E,H=>o.guard=none∧B4i P sx bl E.ev H (fun d H'=>A7u P sx bl K l (E.put o.dst d) H') o.op
def X4(P:Program)(bl:List Nat)(gs:List (Option Nat))(K:Env→Heap→Prop):List Oper→Env→Heap→Prop
 | [],E,H=>K E H
 |o::l,E,H=>match o.guard with
  |none=>A5M P bl E.ev H (fun d H'=>X4 P bl gs K l (E.put o.dst d) H') o.op
  |some (j,want)=>A1e E (G9 gs j) want (fun E=>A5M P bl E.ev H (fun d H'=>X4 P bl gs K l (E.put o.dst d) H') o.op) (fun E=>X4 P bl gs K l (E.put o.dst (.tuple [])) H)
def wp(P:Program)(Z:List (Nat×Rc)):Code→(AX→Env→Heap→Prop)→Env→Heap→Prop
 | .skip,Q,E,H=>Q .normal E H
 | .region id ops _,Q,E,H=>match A0T id Z with
  |none=>wpOps P (ops.toList.map (·.dst)) (Q .normal) ops.toList E H
  |some (.rd sx)=>∃bl,(∀k∈bl,H k≠none)∧A7u P sx bl (Q .normal) ops.toList E H
  |some .par=>∃(cs:Nat→CR) (bs:Nat→Bl),B3V bs 0 ops.toList∧wpP P (ops.toList.map (·.dst)) cs bs (Q .normal) 0 ops.toList E H
  |some (.ord perm)=>∃bl:List Nat,wpG P bl (Q .normal) (perm.map (A1h ops.toList)) E H
  |some .rg=>∃bl,(∀k∈bl,H k≠none)∧X4 P bl (ops.toList.map (·.dst)) (Q .normal) ops.toList E H
  |some .wk=>∃E0 H0,A1C E0 H0 E H∧wpOps P (ops.toList.map (·.dst)) (Q .normal) ops.toList E0 H0
 | .seq a b,Q,E,H=>wp P Z a (fun x E H=>match x with| .normal=>wp P Z b Q E H| .exit i=>Q (.exit i) E H| .ret=>Q .ret E H) E H
 | .cond c x y,Q,E,H=>∃b,E.ev c= .bool b∧(b=true→wp P Z x Q (E.fix c true) H)∧(b=false→wp P Z y Q (E.fix c false) H)
 | .block id c,Q,E,H=>wp P Z c (fun x E H=>match x with| .normal=>Q .normal E H| .exit i=>if i=id then Q .normal E H else Q (.exit i) E H| .ret=>Q .ret E H) E H
 | .loop c,Q,E,H=>B2D (fun K=>wp P Z c fun x E H=>match x with| .normal=>K E H| .exit i=>Q (.exit i) E H| .ret=>Q .ret E H) E H
 | .exit id,Q,E,H=>Q (.exit id) E H
 | .ret,Q,E,H=>Q .ret E H
 | .scope c,Q,E,H=>wp P Z c Q E H
 | .label _,Q,E,H=>Q .normal E H
 |_,_,_,_=>False
def N6(P:Program)(Z:List (Nat×Rc))(N:Nat):Code→Bool
 | .region id ops d=>(ops.all fun o=>match o.dst with|some t=>decide (t<N)|none=>true)&&(match A0T id Z with|none=> !d||A3t P none ops|some (.rd sx)=> !d||A3t P (some sx) ops|some .par=>d&&B2C P ops|some (.ord perm)=>d&&B4y P ops perm|some .rg=> !d||A3t P (some true) ops|some .wk=> !d||A3t P none ops)
 | .seq a b=>N6 P Z N a&&N6 P Z N b
 | .cond _ x y=>N6 P Z N x&&N6 P Z N y
 | .block _ c=>N6 P Z N c
 | .loop c=>N6 P Z N c
 | .scope c=>N6 P Z N c
 |_=>true
section
variable {P:Program} {Z:List (Nat×Rc)} {N:Nat} {w0:World} {H0:Heap}
theorem St.ev{E:Env}{H:Heap}{a:Act}{w:World}(h:St N w0 H0 E H a w)(x:Operand):R w H (E.ev x) (a.eval x):=by
 cases x with
 |tmp t=>exact h.env t
 |const v=>exact A15 w H v
 |global g=>exact .glob g
 |func f=>exact .fn _ _ _ _ _ rfl rfl (by simp) (by simp)
theorem St.put{E:Env}{H H':Heap}{a:Act}{w w':World}(h:St N w0 H0 E H a w){dst:Option Tmp}(hd: ∀t,dst=some t→t<N){d:D}{v:Value}(hv:R w' H' d v)(hs:Sat H' w')(he:Ext H w w')(hf:From w H H'):
  St N w0 H0 (E.put dst d) H' (a.put dst v) w':=by
 refine⟨?_,?_,fun i=>?_,hs,h.ext.trans h.frm he,h.frm.trans h.ext.size hf⟩
 ·cases dst<;>simp[Act.put,h.size]
 ·cases dst<;>exact h.defers
 ·cases dst with
  |none=>exact(h.env i).mono he hf
  |some t=>
   have ht:=hd t rfl
   simp only[Env.put,Env.get]
   by_cases hti:t=i
   ·subst hti
    rw[if_pos rfl]
    have:(a.put (some t) v).eval (.tmp t)=v:=by
     have h':t<a.tmps.size:=by rw[h.size];exact ht
     simp[Act.eval,Act.put,h']
    rw[this];exact hv
   ·rw[if_neg hti]
    have:(a.put (some t) v).eval (.tmp i)=a.eval (.tmp i):=by
     simp[Act.eval,Act.put,C93 hti]
    rw[this];exact(h.env i).mono he hf
theorem St.know{E:Env}{H:Heap}{a:Act}{w:World}(h:St N w0 H0 E H a w){s:Nat}{d:D}(hd:E.get s=d):St N w0 H0 ((s,d)::E) H a w:=by
 refine⟨h.size,h.defers,fun i=>?_,h.sat,h.ext,h.frm⟩
 simp only[Env.get]
 by_cases hi:s=i
 ·subst hi;rw[if_pos rfl,←hd];exact h.env s
 ·rw[if_neg hi];exact h.env i
theorem St.weak{E E':Env}{H H':Heap}{a:Act}{w:World}(h:St N w0 H0 E H a w)(hw:A1C E' H' E H):St N w0 H0 E' H' a w:=hw _ _ _ _ _ h
theorem A7v{E E':Env}{H H':Heap}(hE: ∀p∈E',E.get p.1=p.2)(hl:H'.Le H):A1C E' H' E H:=by
 intro N w0 H0 a w h
 refine⟨h.size,h.defers,fun i=>?_,h.sat.less hl,h.ext,h.frm.less hl⟩
 have key: ∀(L:Env),(∀p∈L,E.get p.1=p.2)→R w H' (L.get i) (a.eval (.tmp i)):=by
  intro L
  induction L with
  |nil=>intro _;exact .undef _
  |cons p L ih=>
   intro hL
   obtain⟨j,d⟩:=p
   simp only[Env.get]
   by_cases hj:j=i
   ·subst hj
    rw[if_pos rfl]
    have:=hL (j,d) (by simp)
    simp only at this
    rw[←this]
    exact(h.env j).less hl
   ·rw[if_neg hj];exact ih (fun p hp=>hL p (by simp[hp]))
 exact key E' hE
theorem A0H{ops:Array Oper}{K:Env→Heap→Prop}: ∀(l:List Oper) (E:Env) (H:Heap) (a:Act) (w:World),(∀o∈l,∀t,o.dst=some t→t<N)→wpOps P (ops.toList.map (·.dst)) K l E H→St N w0 H0 E H a w→
  wpA P none ops (fun a' w'=>∃E' H',St N w0 H0 E' H' a' w'∧K E' H') l a w:=by
 intro l
 induction l with
 |nil=>intro E H a w _ h hst;exact⟨E,H,hst,h⟩
 |cons o l ih=>
  intro E H a w hd h hst
  have hd': ∀o∈l,∀t,o.dst=some t→t<N:=fun o' ho'=>hd o' (by simp[ho'])
  have hdo:=hd o (by simp)
  have run: ∀E,St N w0 H0 E H a w→D0 P E.ev H (fun d H'=>wpOps P (ops.toList.map (·.dst)) K l (E.put o.dst d) H') o.op→opSem P none o a w fun v w'=>wpA P none ops (fun a' w'=>∃E' H',St N w0 H0 E' H' a' w'∧K E' H') l (a.put o.dst v) w':=by
   intro E hst h
   refine(N0 hst.sat hst.ev h).mono fun v w' hp=>?_
   obtain⟨d,H',h1,h2,h3,h4,h5⟩:=hp
   exact ih _ _ _ _ hd' h5 (hst.put hdo h1 h2 h3 h4)
  have skip: ∀E,St N w0 H0 E H a w→wpOps P (ops.toList.map (·.dst)) K l (E.put o.dst (.tuple [])) H→wpA P none ops (fun a' w'=>∃E' H',St N w0 H0 E' H' a' w'∧K E' H') l (a.put o.dst undef) w:=
   fun E hst h=>ih _ _ _ _ hd' h (hst.put hdo (.tuple [] #[] rfl (by simp)) hst.sat (D0x _ _) (D0w _ _))
  unfold wpOps at h
  unfold wpA
  split at h
  ·rename_i hg
   rw[if_pos (by simp[Region.wanted,hg])]
   exact run E hst h
  ·rename_i j want hg
   have hslot:G9 (ops.toList.map (·.dst)) j=(ops[j]?).bind (·.dst):=by
    unfold G9
    rw[C9m]
    cases hj:ops[j]? with
    |none=>simp[hj]
    |some o=>simp[hj]
   unfold A1e at h
   split at h
   ·rename_i hs
    have hy:yielded ops a.tmps j=none:=by
     unfold yielded
     rw[hslot]at hs
     rw[hs];rfl
    rw[if_neg (by simp[Region.wanted,hg,hy])]
    exact skip E hst h
   ·rename_i s hs
    rcases h with⟨hu,h⟩|⟨b,hb,h1,h2⟩
    ·have hv:=hst.env s
     rw[hu]at hv
     obtain⟨vs,hv,_⟩:=hv.tuple_inv
     have hy:yielded ops a.tmps j=none:=by
      unfold yielded
      rw[hslot]at hs
      rw[hs]
      simp only[C9t]
      simp only[Act.eval]at hv
      cases ht:a.tmps[s]? with
      |none=>rfl
      |some u=>
       simp[ht]at hv
       subst hv;rfl
     rw[if_neg (by simp[Region.wanted,hg,hy])]
     exact skip E hst h
    have hv:=hst.env s
    rw[hb]at hv
    have hv:=hv.bool_inv
    have hy:yielded ops a.tmps j=some b:=by
     unfold yielded
     rw[hslot]at hs
     rw[hs]
     simp only[C9t]
     simp only[Act.eval]at hv
     cases ht:a.tmps[s]? with
     |none=>
      simp[ht]at hv
      cases hv
     |some u=>
      simp[ht]at hv
      subst hv;rfl
    by_cases hbw:b=want
    ·subst hbw
     rw[if_pos (by simp[Region.wanted,hg,hy])]
     exact run _ (hst.know hb) (h1 rfl)
    ·have hbn:b= !want:=by cases b<;>cases want<;>simp_all
     subst hbn
     rw[if_neg (by simp[Region.wanted,hg,hy])]
     exact skip _ (hst.know hb) (h2 rfl)
theorem A3A{ops:Array Oper}{bl:List Nat}{K:Env→Heap→Prop}: ∀(l:List Oper) (E:Env) (H:Heap) (a:Act) (w:World),(∀o∈l,∀t,o.dst=some t→t<N)→(∀k∈bl,k<w.heap.size)→X4 P bl (ops.toList.map (·.dst)) K l E H→St N w0 H0 E H a w→
  wpA P (some (true,bl)) ops (fun a' w'=>∃E' H',St N w0 H0 E' H' a' w'∧K E' H') l a w:=by
 intro l
 induction l with
 |nil=>intro E H a w _ _ h hst;exact⟨E,H,hst,h⟩
 |cons o l ih=>
  intro E H a w hd hbl h hst
  have hd': ∀o∈l,∀t,o.dst=some t→t<N:=fun o' ho'=>hd o' (by simp[ho'])
  have hdo:=hd o (by simp)
  have run: ∀E,St N w0 H0 E H a w→A5M P bl E.ev H (fun d H'=>X4 P bl (ops.toList.map (·.dst)) K l (E.put o.dst d) H') o.op→opSem P (some (true,bl)) o a w fun v w'=>wpA P (some (true,bl)) ops (fun a' w'=>∃E' H',St N w0 H0 E' H' a' w'∧K E' H') l (a.put o.dst v) w':=by
   intro E hst h
   refine(A9K hbl hst.sat hst.ev h).mono fun v w' hp=>?_
   obtain⟨d,H',h1,h2,h3,h4,h5⟩:=hp
   exact ih _ _ _ _ hd' (fun k hk=>D0L (hbl k hk) h3.size) h5 (hst.put hdo h1 h2 h3 h4)
  have skip: ∀E,St N w0 H0 E H a w→X4 P bl (ops.toList.map (·.dst)) K l (E.put o.dst (.tuple [])) H→wpA P (some (true,bl)) ops (fun a' w'=>∃E' H',St N w0 H0 E' H' a' w'∧K E' H') l (a.put o.dst undef) w:=
   fun E hst h=>ih _ _ _ _ hd' hbl h (hst.put hdo (.tuple [] #[] rfl (by simp)) hst.sat (D0x _ _) (D0w _ _))
  unfold X4 at h
  unfold wpA
  split at h
  ·rename_i hg
   rw[if_pos (by simp[Region.wanted,hg])]
   exact run E hst h
  ·rename_i j want hg
   have hslot:G9 (ops.toList.map (·.dst)) j=(ops[j]?).bind (·.dst):=by
    unfold G9
    rw[C9m]
    cases hj:ops[j]? with
    |none=>simp[hj]
    |some o=>simp[hj]
   unfold A1e at h
   split at h
   ·rename_i hs
    have hy:yielded ops a.tmps j=none:=by
     unfold yielded
     rw[hslot]at hs
     rw[hs];rfl
    rw[if_neg (by simp[Region.wanted,hg,hy])]
    exact skip E hst h
   ·rename_i s hs
    rcases h with⟨hu,h⟩|⟨b,hb,h1,h2⟩
    ·have hv:=hst.env s
     rw[hu]at hv
     obtain⟨vs,hv,_⟩:=hv.tuple_inv
     have hy:yielded ops a.tmps j=none:=by
      unfold yielded
      rw[hslot]at hs
      rw[hs]
      simp only[C9t]
      simp only[Act.eval]at hv
      cases ht:a.tmps[s]? with
      |none=>rfl
      |some u=>
       simp[ht]at hv
       subst hv;rfl
     rw[if_neg (by simp[Region.wanted,hg,hy])]
     exact skip E hst h
    have hv:=hst.env s
    rw[hb]at hv
    have hv:=hv.bool_inv
    have hy:yielded ops a.tmps j=some b:=by
     unfold yielded
     rw[hslot]at hs
     rw[hs]
     simp only[C9t]
     simp only[Act.eval]at hv
     cases ht:a.tmps[s]? with
     |none=>
      simp[ht]at hv
      cases hv
     |some u=>
      simp[ht]at hv
      subst hv;rfl
    by_cases hbw:b=want
    ·subst hbw
     rw[if_pos (by simp[Region.wanted,hg,hy])]
     exact run _ (hst.know hb) (h1 rfl)
    ·have hbn:b= !want:=by cases b<;>cases want<;>simp_all
     subst hbn
     rw[if_neg (by simp[Region.wanted,hg,hy])]
     exact skip _ (hst.know hb) (h2 rfl)
theorem A3B{ops:Array Oper}{sx:Bool}{bl:List Nat}{K:Env→Heap→Prop}: ∀(l:List Oper) (E:Env) (H:Heap) (a:Act) (w:World),(∀o∈l,∀t,o.dst=some t→t<N)→(∀k∈bl,k<w.heap.size)→A7u P sx bl K l E H→St N w0 H0 E H a w→
  wpA P (some (sx,bl)) ops (fun a' w'=>∃E' H',St N w0 H0 E' H' a' w'∧K E' H') l a w:=by
 intro l
 induction l with
 |nil=>intro E H a w _ _ h hst;exact⟨E,H,hst,h⟩
 |cons o l ih=>
  intro E H a w hd hbl h hst
  obtain⟨hg,h⟩:=h
  unfold wpA
  rw[if_pos (by simp[Region.wanted,hg])]
  refine(A1b hbl hst.sat hst.ev h).mono fun v w' hp=>?_
  obtain⟨d,H',h1,h2,h3,h4,h5⟩:=hp
  exact ih _ _ _ _ (fun o' ho'=>hd o' (by simp[ho'])) (fun k hk=>D0L (hbl k hk) h3.size) h5 (hst.put (hd o (by simp)) h1 h2 h3 h4)
def lift(N:Nat)(w0:World)(H0:Heap)(Q:AX→Env→Heap→Prop):Exit→Act→World→Prop
 | .normal,a,w=>∃E H,St N w0 H0 E H a w∧Q .normal E H
 | .exit id,a,w=>∃E H,St N w0 H0 E H a w∧Q (.exit id) E H
 | .ret,a,w=>∃E H,St N w0 H0 E H a w∧Q .ret E H
 |_,_,_=>False
theorem B40{c:Code}{Q:Exit→Act→World→Prop}(I:Nat→Act→World→Prop){n:Nat}{a:Act}{w:World}(h0:I n a w)
  (round: ∀n a w,I n a w→c.wp P (Exit.then (fun a' w'=>∃m,m<n∧I m a' w') Q) a w):(Code.loop c).wp P Q a w:=by
 intro b k cs
 have key: ∀n a w,I n a w→∃e a' w',Q e a' w'∧Arrives P (lone (b.at a (.code c:: .inLoop c::k)) cs w) b k cs e a' w':=by
  intro n
  induction n using Nat.strongRecOn with
  |_ n ih=>
   intro a w hI
   obtain⟨e,a1,w1,hq,harr⟩:=round n a w hI b (.inLoop c::k) cs
   cases e with
   |normal=>
    obtain⟨m,hm,hIm⟩:=hq
    obtain⟨e2,a2,w2,hq2,harr2⟩:=ih m hm a1 w1 hIm
    exact⟨e2,a2,w2,hq2,.of_steps (Steps.trans harr (.one step_inLoop)) harr2⟩
   |exit id=>exact⟨_,a1,w1,hq,.pass (x:=.inLoop c) rfl (fun _ _=>.inl (by simp)) harr⟩
   |goto l=>exact⟨_,a1,w1,hq,.pass (x:=.inLoop c) rfl (fun _ _=>.inl (by simp)) harr⟩
   |ret=>exact⟨_,a1,w1,hq,.pass (x:=.inLoop c) rfl (fun _ _=>.inl (by simp)) harr⟩
   |panic ch=>exact⟨_,a1,w1,hq,.pass (x:=.inLoop c) rfl (fun _ _=>.inl (by simp)) harr⟩
   |outgrown=>exact⟨_,a1,w1,hq,.pass (x:=.inLoop c) rfl (fun _ _=>.inl (by simp)) harr⟩
 obtain⟨e,a',w',hq,harr⟩:=key n a w h0
 exact⟨e,a',w',hq,.of_steps (.one step_loop) harr⟩
theorem t8(hm:P.follows .mixedOrders=true): ∀(c:Code) (Q:AX→Env→Heap→Prop) (E:Env) (H:Heap) (a:Act) (w:World),N6 P Z N c=true→wp P Z c Q E H→St N w0 H0 E H a w→c.wp P (lift N w0 H0 Q) a w:=by
  intro c
  induction c with
  |skip=>intro Q E H a w _ h hst;exact Go.wp_skip ⟨E,H,hst,h⟩
  |region id ops d=>
    intro Q E H a w hok h hst
    simp only[N6,C9c]at hok
    have hd: ∀o∈ops.toList,∀t,o.dst=some t→t<N:=fun o ho t ht=>by
      have:=Array.all_eq_true_iff_forall_mem.1 hok.1 o (by simpa using ho)
      rw[ht]at this
      simpa using this
    have he:Ext H w {w with drawn:=w.drawn+1}:=Ext.drewN H w 1
    have hst1:St N w0 H0 E H a {w with drawn:=w.drawn+1}:=⟨hst.size,hst.defers,fun i=>(hst.env i).mono he (D0w _ _),hst.sat.same rfl he,hst.ext.trans hst.frm he,hst.frm⟩
    unfold wp at h
    cases hz:A0T id Z with
    |none=>
      rw[hz]at h hok
      cases d with
      |false=>exact q0 (fun a w h=>h) (A0H ops.toList E H a w hd h hst)
      |true=>exact A28 (F:=none) hm (by simpa using hok.2) (fun a w h=>h) (A0H ops.toList E H a _ hd h hst1)
    |some rc=>
      rw[hz]at h hok
      cases rc with
      |par=>
        simp only[C9c]at hok
        obtain⟨_,hd2,hok1⟩:=hok
        subst hd2
        obtain⟨cs,bs,hbs,h⟩:=h
        exact B4w hm hok1 hd (fun E H a w k1 k2 k3 k4 k5 k6 hk=>⟨E,H,⟨k1,k2,k3,k4,k5,k6⟩,hk⟩) hst.size hst.defers hst.env hst.sat hst.ext hst.frm hbs h
      |ord perm=>
        simp only[C9c]at hok
        obtain⟨_,hd2,hok1⟩:=hok
        subst hd2
        obtain⟨bl,h⟩:=h
        exact B4z hm hok1 hd (fun E H a w k1 k2 k3 k4 k5 k6 hk=>⟨E,H,⟨k1,k2,k3,k4,k5,k6⟩,hk⟩) hst.size hst.defers hst.env hst.sat hst.ext hst.frm h
      |wk=>
        obtain⟨E0,Hh,hwk,h⟩:=h
        (cases d with
        |false=>exact q0 (fun a w h=>h) (A0H ops.toList E0 Hh a w hd h (hst.weak hwk))
        |true=>exact A28 (F:=none) hm (by simpa using hok.2) (fun a w h=>h) (A0H ops.toList E0 Hh a _ hd h (hst1.weak hwk)))
      |rg=>
      obtain⟨bl,hbl,h⟩:=h
      have hlt: ∀w:World,Sat H w→∀k∈bl,k<w.heap.size:=fun w hs k hk=>by
        cases ho:H k with
        |none=>exact absurd ho (hbl k hk)
        |some o=>exact hs.lt ho
      (cases d with
      |false=>exact q0 (fun a w h=>h) (A3A (bl:=bl) ops.toList E H a w hd (hlt _ hst.sat) h hst)
      |true=>exact A28 (F:=some (true,bl)) hm (by simpa using hok.2) (fun a w h=>h) (A3A (bl:=bl) ops.toList E H a _ hd (hlt _ hst1.sat) h hst1))
      |rd sx=>
      obtain⟨bl,hbl,h⟩:=h
      have hlt: ∀w:World,Sat H w→∀k∈bl,k<w.heap.size:=fun w hs k hk=>by
        cases ho:H k with
        |none=>exact absurd ho (hbl k hk)
        |some o=>exact hs.lt ho
      cases d with
      |false=>exact q0 (fun a w h=>h) (A3B (sx:=sx) (bl:=bl) ops.toList E H a w hd (hlt _ hst.sat) h hst)
      |true=>exact A28 (F:=some (sx,bl)) hm (by simpa using hok.2) (fun a w h=>h) (A3B (sx:=sx) (bl:=bl) ops.toList E H a _ hd (hlt _ hst1.sat) h hst1)
  |seq x y ihx ihy=>
    intro Q E H a w hok h hst
    simp only[N6,C9c]at hok
    refine Go.wp_seq (Go.wp_mono (ihx _ E H a w hok.1 h hst) fun e a' w' he=>?_)
    cases e with
    |normal=>obtain⟨E',H',hst',h'⟩:=he;exact ihy Q E' H' a' w' hok.2 h' hst'
    |exit id=>obtain⟨E',H',hst',h'⟩:=he;exact⟨E',H',hst',h'⟩
    |ret=>obtain⟨E',H',hst',h'⟩:=he;exact⟨E',H',hst',h'⟩
    |_=>exact he.elim
  |cond c x y ihx ihy=>
    intro Q E H a w hok h hst
    simp only[N6,C9c]at hok
    obtain⟨b,hb,h1,h2⟩:=h
    have hv:=hst.ev c
    rw[hb]at hv
    have hfix: ∀b',E.ev c= .bool b'→St N w0 H0 (E.fix c b') H a w:=fun b' hb'=>by
      cases c with
      |tmp t=>exact hst.know hb'
      |_=>exact hst
    refine Go.wp_cond_split hv.bool_inv (fun ht=>?_) (fun ht=>?_)
    · subst ht;exact ihx Q _ H a w hok.1 (h1 rfl) (hfix _ hb)
    · subst ht;exact ihy Q _ H a w hok.2 (h2 rfl) (hfix _ hb)
  |block id c ih=>
    intro Q E H a w hok h hst
    simp only[N6]at hok
    refine Go.wp_block (Go.wp_mono (ih _ E H a w hok h hst) fun e a' w' he=>?_)
    cases e with
    |normal=>obtain⟨E',H',hst',h'⟩:=he;exact⟨E',H',hst',h'⟩
    |exit i=>
      obtain⟨E',H',hst',h'⟩:=he
      simp only[Exit.inBlock]
      by_cases hi:i=id
      · rw[if_pos hi];simp only[hi,if_true]at h';exact⟨E',H',hst',h'⟩
      · rw[if_neg hi];simp only[hi,if_false]at h';exact⟨E',H',hst',h'⟩
    |ret=>obtain⟨E',H',hst',h'⟩:=he;exact⟨E',H',hst',h'⟩
    |_=>exact he.elim
  |loop c ih=>
    intro Q E H a w hok h hst
    simp only[N6]at hok
    obtain⟨I,⟨n,E0,Hh,hw,hI⟩,round⟩:=h
    refine B40 (fun n a w=>∃E H,St N w0 H0 E H a w∧I n E H) (n:=n) ⟨E0,Hh,hst.weak hw,hI⟩ fun n a w hI'=>?_
    obtain⟨E1,H1,hst1,hI1⟩:=hI'
    refine Go.wp_mono (ih _ E1 H1 a w hok (round n E1 H1 hI1) hst1) fun e a' w' he=>?_
    cases e with
    |normal=>
      obtain⟨E',H',hst',m,E2,H2,hm',hwk,hI2⟩:=he
      exact⟨m,hm',E2,H2,hst'.weak hwk,hI2⟩
    |exit id=>obtain⟨E',H',hst',h'⟩:=he;exact⟨E',H',hst',h'⟩
    |ret=>obtain⟨E',H',hst',h'⟩:=he;exact⟨E',H',hst',h'⟩
    |_=>exact he.elim
  |exit id=>intro Q E H a w _ h hst;exact Go.wp_exit ⟨E,H,hst,h⟩
  |ret=>intro Q E H a w _ h hst;exact Go.wp_ret ⟨E,H,hst,h⟩
  |scope c ih=>
    intro Q E H a w hok h hst
    simp only[N6]at hok
    refine Go.wp_scope_straight (Go.wp_mono (ih Q E H a w hok h hst) fun e a' w' he=>?_)
    cases e with
    |goto l=>exact he.elim
    |_=>exact he
  |label l=>intro Q E H a w _ h hst;exact Go.wp_label ⟨E,H,hst,h⟩
  |_=>intro Q E H a w _ h _;exact h.elim
end
def A0I(P:Program)(E:Env)(H:Heap):ResultVar→Option D
 | .tmp t=>some (E.get t)
 | .cell a t=>s8 P t (E.get a) H
def A2h(P:Program)(rs:List ResultVar)(E:Env)(H:Heap):Option D:=(rs.mapM (A0I P E H)).map fun
 | [d]=>d
 |ds=>.tuple ds
def Shift(H:Heap)(d:D)(H':Heap)(d':D):Prop:=∀w v,R w H d v→Sat H w→R w H' d' v∧Sat H' w∧∀k,H.held k=false→H'.held k=false
theorem Shift.less{H H':Heap}(h:H'.Le H)(d:D):Shift H d H' d:=fun _ _ hr hs=>⟨hr.less h,hs.less h,fun _ hn=>h.held hn⟩
theorem Shift.trans{H H' H'':Heap}{d d' d'':D}(h:Shift H d H' d')(k:Shift H' d' H'' d''):Shift H d H'' d'':=fun w v hr hs=>
 let ⟨a,b,c⟩:=h w v hr hs;let ⟨e,f,g⟩:=k w v a b;⟨e,f,fun i hi=>g i (c i hi)⟩
def A9X(P:Program)(rs:List ResultVar)(Q:D→Heap→Prop):AX→Env→Heap→Prop
 | .exit _,_,_=>False
 |_,E,H=>∃r,A2h P rs E H=some r∧∃H' r',Shift H r H' r'∧Q r' H'
def X5:Nat→List D→Env
 |_,[]=>[]
 |i,d::ds=>(i,d)::X5 (i+1) ds
section
variable {P:Program}
theorem u0: ∀(ds:List D) (k i:Nat),(X5 k ds).get i=if k≤i then(ds[i-k]?).getD .undef else .undef
 | [],k,i=>by simp[X5,Env.get]
 |d::ds,k,i=>by
  simp only[X5,Env.get]
  by_cases hki:k=i
  ·subst hki;rw[if_pos rfl,if_pos (C9j _)];simp
  ·rw[if_neg hki,u0 ds]
   by_cases h:k+1≤i
   ·rw[if_pos h,if_pos (by omega),show i-k=(i-(k+1))+1 by omega,C9v]
   ·rw[if_neg h,if_neg (by omega)]
theorem A2B{N:Nat}{w0:World}{H0:Heap}{E:Env}{H:Heap}{a:Act}{w:World}(hst:St N w0 H0 E H a w){fn:Func}{r:D}(h:A2h P fn.results.toList E H=some r):
  ∃v,(results fn a.tmps).run P w= .ok v w∧R w H r v:=by
 unfold A2h at h
 obtain⟨ds,hds,hr⟩:=C9Y.1 h
 have key: ∀(rs:List ResultVar) (ds:List D),rs.mapM (A0I P E H)=some ds→∃vs:List Value,(rs.mapM fun(x:ResultVar)=>match x with| .tmp t=>(pure (a.tmps.getD t undef):Sem Value)| .cell b t=>do loadVar t (←asAddr (a.tmps.getD b undef))).run P w= .ok vs w∧ds.length=vs.length∧∀(i:Nat) d,ds[i]? =some d→R w H d (vs.getD i Go.undef):=by
  intro rs
  induction rs with
  |nil=>intro ds h;simp at h;subst h;exact⟨[],rfl,rfl,by simp⟩
  |cons x rs ih=>
   intro ds h
   simp only[List.mapM_cons,Option.bind_eq_bind,C9b,Option.pure_def]at h
   obtain⟨d0,h0,r0,h1,h2⟩:=h
   cases h2
   obtain⟨vs,hvs,hl,hR⟩:=ih r0 h1
   have one: ∃v,(match x with| .tmp t=>(pure (a.tmps.getD t undef):Sem Value)| .cell b t=>do loadVar t (←asAddr (a.tmps.getD b undef))).run P w= .ok v w∧R w H d0 v:=by
    cases x with
    |tmp t=>
     simp only[A0I,C91]at h0
     subst h0
     exact⟨_,rfl,hst.env t⟩
    |cell b t=>
     simp only[A0I]at h0
     obtain⟨u,hu,hRu⟩:=A5N (P:=P) hst.sat h0 (hst.env b)
     refine⟨u,?_,hRu⟩
     unfold Instr.loadAt at hu
     simp only[Act.eval]at hu
     have hsa: ∀(z:Value) (A:Addr) (w:World),(Instr.sureAddr z).run P w= .ok A w→(asAddr z).run P w= .ok A w:=by
      intro z A w hz
      cases z with
      |pointer o=>
       cases o with
       |none=>exact absurd hz (by simp[Instr.sureAddr,stuck])
       |some y=>exact hz
      |_=>exact absurd hz (by simp[Instr.sureAddr,stuck])
     rw[Sem.run_bind]at hu⊢
     cases hs:(Instr.sureAddr (a.tmps.getD b undef)).run P w with
     |ok A w'=>
      have hww:w'=w:=by
       unfold Instr.sureAddr at hs
       split at hs
       ·cases hs;rfl
       ·cases hs
      subst hww
      rw[hs]at hu
      rw[hsa _ _ _ hs]
      exact hu
     |halt x w'=>rw[hs]at hu;cases hu
   obtain⟨v,hv,hRv⟩:=one
   refine⟨v::vs,?_,by simp[hl],fun i d hd=>?_⟩
   ·rw[List.mapM_cons,Sem.run_bind,hv]
    simp only[Result.andThen_ok]
    rw[Sem.run_bind,hvs]
    rfl
   ·cases i with
    |zero=>simp at hd;subst hd;simpa using hRv
    |succ i=>simp at hd;simpa using hR i d hd
 obtain⟨vs,hvs,hl,hR⟩:=key _ _ hds
 have hrun:(results fn a.tmps).run P w= .ok (if h:vs.toArray.size=1 then vs.toArray[0]else .tuple vs.toArray) w:=by
  unfold results
  rw[Sem.run_bind,Array.mapM_eq_mapM_toList]
  simp only[Functor.map]
  rw[Sem.run_bind']
  exact congrArg (fun r:Result (List Value)=>(r.andThen fun a w'=>Sem.run P ((Sem.pure ∘ List.toArray) a) w').andThen fun a w'=>Sem.run P (pure (if h:a.size=1 then a[0]else Value.tuple a)) w') hvs
 refine⟨_,hrun,?_⟩
 match ds,vs,hl,hr,hR with
 | [d],[v],_,hr,hR=>simp only at hr;subst hr;simpa using hR 0 d rfl
 | [],[],_,hr,hR=>simp only at hr;subst hr;exact .tuple _ _ rfl (by simp)
 |d1::d2::ds,v1::v2::vs,hl,hr,hR=>
  simp only at hr;subst hr
  rw[dif_neg (by simp)]
  exact .tuple _ _ (by simpa using hl) (fun i d hd=>by simpa using hR i d hd)
theorem B2{f:Nat}(Z:List (Nat×Rc)){fn:Func}{c:Code}{args:List D}{H:Heap}{Q:D→Heap→Prop}(hm:P.follows .mixedOrders=true)(hf:P.funcs[f]? =some fn)(hb:fn.body=some c)(hbo:A2b P f=true)(hn:args.length≤fn.ntmps)
  (hok:N6 P Z fn.ntmps c=true) (h:wp P Z c (A9X P fn.results.toList Q) (X5 0 args) H):ACalls P f args H Q:=by
 refine⟨hbo,fun w vs hl hR hs=>calls_of_wp hf hb ?_⟩
 have hst:St fn.ntmps w H (X5 0 args) H {tmps:=vs++Array.replicate (fn.ntmps-vs.size) undef,defers:=[]} w:=by
  refine⟨by simp;omega,rfl,fun i=>?_,hs,D0x _ _,D0w _ _⟩
  rw[u0,if_pos (C9k _),Nat.sub_zero]
  cases hi:args[i]? with
  |none=>exact .undef _
  |some d=>
   have hlt:=(C9Z.1 hi).1
   have:({tmps:=vs++Array.replicate (fn.ntmps-vs.size) undef,defers:=[]}:Act).eval (.tmp i)=vs.getD i undef:=by
    simp only[Act.eval]
    exact F5 (by omega)
   rw[this]
   exact hR i d hi
 have fin: ∀(x:AX) (E:Env) (H':Heap) (a:Act) (w':World),(x= .normal∨x= .ret)→St fn.ntmps w H E H' a w'→A9X P fn.results.toList Q x E H'→
   a.defers= []∧∃v,(results fn a.tmps).run P w'= .ok v w'∧∃v',Ending.returned v= .returned v'∧Post H w Q v' w':=by
  intro x E H' a w' hx hst' hq
  have hq': ∃r,A2h P fn.results.toList E H'=some r∧∃H1 r',Shift H' r H1 r'∧Q r' H1:=by rcases hx with rfl|rfl<;>exact hq
  obtain⟨r,hr,H1,r',hle,hQ⟩:=hq'
  obtain⟨v,hv,hRv⟩:=A2B (P:=P) hst' hr
  obtain⟨k1,k2,k3⟩:=hle _ _ hRv hst'.sat
  exact⟨hst'.defers,v,hv,v,rfl,r',H1,k1,k2,hst'.ext,fun k hk hn=>k3 k (hst'.frm k hk hn),hQ⟩
 refine Go.wp_mono (t8 hm c _ _ _ _ _ hok h hst) fun e a w' he=>?_
 cases e with
 |normal=>obtain⟨E,H',hst',hq⟩:=he;exact fin .normal E H' a w' (.inl rfl) hst' hq
 |ret=>obtain⟨E,H',hst',hq⟩:=he;exact fin .ret E H' a w' (.inr rfl) hst' hq
 |exit id=>obtain⟨E,H',hst',hq⟩:=he;exact hq.elim
 |_=>exact he.elim
theorem ACalls.shift{f:Nat}{args args':List D}{H H':Heap}{Q:D→Heap→Prop}(hs: ∀w (vs:Array Value),args.length=vs.size→(∀(i:Nat) d,args[i]? =some d→R w H d (vs.getD i Go.undef))→Sat H w→
  args'.length=vs.size∧(∀(i:Nat) d,args'[i]? =some d→R w H' d (vs.getD i Go.undef))∧Sat H' w∧∀k,H.held k=false→H'.held k=false) (h:ACalls P f args' H' Q):ACalls P f args H Q:=by
 refine⟨h.1,fun w vs h1 h2 h3=>?_⟩
 obtain⟨k1,k2,k3,k4⟩:=hs w vs h1 h2 h3
 refine(h.2 w vs k1 k2 k3).mono fun e w' ⟨v,he,d,H1,p1,p2,p3,p4,p5⟩=>⟨v,he,d,H1,p1,p2,⟨p3.os,p3.tape,p3.output,p3.size,fun k hk hn=>p3.block k hk (k4 k hn),p3.shape⟩,fun k hk hn=>p4 k hk (k4 k hn),p5⟩
theorem D8(H:Heap)(b:Nat):(H.del b).Le H:=fun k o h=>by
 unfold Heap.del at h
 split at h
 ·cases h
 ·exact h
theorem A5c{w:World}{H:Heap}{b sz lo n:Nat}{es:List (List D)}{v:Value}(hr:R w H (.vec b sz lo n) v)(hs:Sat H w)(hb:H b=some (.vec sz es))(hn:lo+n≤es.length):
  R w (H.del b) (.sl sz ((es.drop lo).take n)) v:=by
 have hlt:=hs.lt hb
 obtain⟨c,T,x,y,h1,h2,h3,h4⟩:=A16 (hs b _ hb)
 cases hr with
 |vec0 b sz lo off=>rw[List.take_zero];exact .sl0 _ _ _
 |vec b sz lo n cap T m hb' hs' hsz hn'=>
 have hlen:((es.drop lo).take n).length=n:=by simp;omega
 have hget: ∀(i:Nat) (e:List D),((es.drop lo).take n)[i]? =some e→i<n∧es[lo+i]? =some e:=fun i e he=>by
  have hi:=(C9Z.1 he).1
  rw[hlen]at hi
  rw[List.getElem?_take_of_lt hi,List.getElem?_drop]at he
  exact⟨hi,he⟩
 have hR:=R.sl (w:=w) (H:=H.del b) sz ((es.drop lo).take n) b (lo*sz) cap (fun i j=>c.getD ((lo+i)*sz+j) Go.undef) hlt (G8 (by simp[Heap.del]))
  (fun i e he=>h4.each _ _ (hget i e he).2) (by rw[hlen];exact hn') (fun i j hi hj=>?_) (fun i e j d he hd=>h4.one _ _ _ _ (hget i e he).2 hd)
  (fun i e j d he hd=>(h4.rel _ _ _ _ (hget i e he).2 hd).less (D8 H b))
 ·rw[hlen]at hR;exact hR
 ·rw[hlen]at hi
  have e1:lo*sz+i*sz+j=(lo+i)*sz+j:=by rw[Nat.add_mul]
  rw[e1,U2 h1]
  have h5:(lo+i+1)*sz≤es.length*sz:=C95 _ (by omega)
  rw[Nat.add_mul (lo+i),Nat.one_mul]at h5
  have h6:=h4.le
  have h7:(lo+i)*sz+j<c.size:=by omega
  simp[h7]
inductive Fz(b sz:Nat)(es:List (List D)):D→D→Prop
 |same (d:D):Fz b sz es d d
 |nil (sz':Nat):Fz b sz es .nilsl (.sl sz' [])
 |vec (lo n:Nat) (h:lo+n≤es.length):Fz b sz es (.vec b sz lo n) (.sl sz ((es.drop lo).take n))
 |all:Fz b sz es (.vec b sz 0 es.length) (.sl sz es)
 |tuple (ds ds':List D) (hl:ds.length=ds'.length) (h: ∀(i:Nat) d d',ds[i]? =some d→ds'[i]? =some d'→Fz b sz es d d'):Fz b sz es (.tuple ds) (.tuple ds')
theorem Fz.R{w:World}{H:Heap}{b sz:Nat}{es:List (List D)}(hs:Sat H w)(hb:H b=some (.vec sz es)){d d':D}(h:Fz b sz es d d'): ∀{v:Value},R w H d v→R w (H.del b) d' v:=by
 induction h with
 |same d=>exact fun hr=>hr.less (D8 H b)
 |nil sz'=>intro v hr;cases hr;exact .sl0 _ _ _
 |vec lo n h=>exact fun hr=>A5c hr hs hb h
 |all=>intro v hr;have:=A5c hr hs hb (by omega);rwa [List.drop_zero,List.take_length]at this
 |tuple ds ds' hl h ih=>
  intro v hr
  obtain⟨vs,rfl,hl',hr'⟩:=hr.tuple_inv
  refine .tuple _ _ (by omega) fun i d' hd'=>?_
  have hi:=(C9Z.1 hd').1
  have hd:ds[i]? =some (ds[i]'(by omega)):=C9g _
  exact ih i _ _ hd hd' (hr' i _ hd)
theorem Fz.one{b sz:Nat}{es:List (List D)}{d d':D}(h:Fz b sz es d d')(h1:d.one=true):d'.one=true:=by
 cases h with
 |same=>exact h1
 |nil=>rfl
 |vec=>rfl
 |all=>rfl
 |tuple=>cases h1
inductive OFz(b sz:Nat)(es:List (List D)):Obj→Obj→Prop
 |same (o:Obj):OFz b sz es o o
 |box (cs cs':List D) (Z:Option TypeId) (hl:cs.length=cs'.length) (h: ∀(i:Nat) d d',cs[i]? =some d→cs'[i]? =some d'→Fz b sz es d d'):OFz b sz es (.box cs Z) (.box cs' Z)
 |vec (s:Nat) (xs xs':List (List D)) (hl:xs.length=xs'.length) (h: ∀(i:Nat) x x',xs[i]? =some x→xs'[i]? =some x'→x.length=x'.length∧∀(j:Nat) d d',x[j]? =some d→x'[j]? =some d'→Fz b sz es d d'):OFz b sz es (.vec s xs) (.vec s xs')
theorem A4R{E E':Env}{H H':Heap}{b sz:Nat}{es:List (List D)}(hb:H b=some (.vec sz es))(hE: ∀p∈E',Fz b sz es (E.get p.1) p.2)
  (hH: ∀k o',H' k=some o'→k≠b∧∃o,H k=some o∧OFz b sz es o o'):A1C E' H' E H:=by
 intro N w0 Hz a w hst
 have hs:=hst.sat
 have hheld: ∀k,H.held k=false→H'.held k=false:=fun k hk=>by
  cases ho:H' k with
  |none=>exact G8 ho
  |some o'=>
   obtain⟨_,o,h1,h2⟩:=hH k o' ho
   rw[I6 h1]at hk
   rw[I6 ho]
   cases h2<;>exact hk
 have hR: ∀{d d':D} {v:Value},Fz b sz es d d'→R w H d v→R w H' d' v:=fun hf hr=>(hf.R hs hb hr).mono (D0x _ _) fun k _ hk=>by
  by_cases hkb:k=b
  ·subst hkb
   cases ho:H' k with
   |none=>exact G8 ho
   |some o'=>exact absurd rfl (hH k o' ho).1
  ·refine hheld k ?_
   rw[←A0E (H:=H) (H':=H.del b) (k:=k) (by unfold Heap.del;rw[if_neg hkb])]
   exact hk
 refine⟨hst.size,hst.defers,fun i=>?_,fun k o' ho=>?_,hst.ext,fun k hk hn=>hheld k (hst.frm k hk hn)⟩
 ·have key: ∀(L:Env),(∀p∈L,Fz b sz es (E.get p.1) p.2)→R w H' (L.get i) (a.eval (.tmp i)):=by
   intro L
   induction L with
   |nil=>intro _;exact .undef _
   |cons p L ih=>
    intro hL
    obtain⟨j,d⟩:=p
    simp only[Env.get]
    by_cases hj:j=i
    ·subst hj
     rw[if_pos rfl]
     exact hR (hL (j,d) (by simp)) (hst.env j)
    ·rw[if_neg hj];exact ih (fun p hp=>hL p (by simp[hp]))
  exact key E' hE
 ·obtain⟨_,o,h1,h2⟩:=hH k o' ho
  have hok:=hs k o h1
  cases h2 with
  |same=>exact hok.mono (D0x H w) (fun k _ hk=>hheld k hk) rfl
  |box cs cs' Z hl hf=>
   obtain⟨c,T,lo,hi,k1,k2,k3,k4,k5⟩:=hok
   refine⟨c,T,lo,hi,k1,k2,by omega,fun j d' hd'=>?_,k5⟩
   have hj:=(C9Z.1 hd').1
   have hd:cs[j]? =some (cs[j]'(by omega)):=C9g _
   have hfz:=hf j _ _ hd hd'
   exact⟨hfz.one (k4 j _ hd).1,hR hfz (k4 j _ hd).2⟩
  |vec s xs xs' hl hf=>
   obtain⟨c,T,lo,hi,k1,k2,k3,k4,k5,k6⟩:=hok
   refine⟨c,T,lo,hi,k1,k2,k3,by rw[←hl];exact k4,fun i x' hx'=>?_,fun i x' j d' hx' hd'=>?_⟩
   ·have hi':=(C9Z.1 hx').1
    have hx:xs[i]? =some (xs[i]'(by omega)):=C9g _
    rw[←(hf i _ _ hx hx').1];exact k5 i _ hx
   ·have hi':=(C9Z.1 hx').1
    have hx:xs[i]? =some (xs[i]'(by omega)):=C9g _
    obtain⟨hlen,hfz⟩:=hf i _ _ hx hx'
    have hj:=(C9Z.1 hd').1
    have hd:(xs[i]'(by omega))[j]? =some ((xs[i]'(by omega))[j]'(by omega)):=C9g _
    have hz:=hfz j _ _ hd hd'
    exact⟨hz.one (k6 i _ j _ hx hd).1,hR hz (k6 i _ j _ hx hd).2⟩
theorem Shift.freeze{H:Heap}{b sz:Nat}{es:List (List D)}(hb:H b=some (.vec sz es)){d d':D}(h:Fz b sz es d d'):Shift H d (H.del b) d':=fun w v hr hs=>
 ⟨h.R hs hb hr,hs.less (D8 H b),fun _ hn=>(D8 H b).held hn⟩
theorem ACalls.freeze{f:Nat}{args args':List D}{H:Heap}{Q:D→Heap→Prop}{b sz:Nat}{es:List (List D)}(hb:H b=some (.vec sz es))(hl:args.length=args'.length)(hz: ∀(i:Nat) d d',args[i]? =some d→args'[i]? =some d'→Fz b sz es d d')
  (h:ACalls P f args' (H.del b) Q):ACalls P f args H Q:=
 h.shift fun w vs h1 h2 h3=>⟨by omega,fun i d' hd'=>by
  have hi:=(C9Z.1 hd').1
  have hd:args[i]? =some (args[i]'(by omega)):=C9g _
  exact(hz i _ _ hd hd').R h3 hb (h2 i _ hd),h3.less (D8 H b),fun _ hn=>(D8 H b).held hn⟩
theorem R.nil_sl{w:World}{H:Heap}{v:Value}(sz:Nat)(h:R w H .nilsl v):R w H (.sl sz []) v:=by cases h;exact .sl0 _ _ _
theorem B0p{f:Nat}{H:Heap}{Q:D→Heap→Prop}(sz:Nat)(h:ACalls P f [.sl sz []] H Q):ACalls P f [.nilsl] H Q:=
 ACalls.shift (args':=[.sl sz []]) (fun w vs h1 h2 h3=>⟨h1,fun i d hd=>by
  match i,hd with
  |0,hd=>simp at hd;subst hd;exact(h2 0 _ rfl).nil_sl sz
  |i+1,hd=>simp at hd,h3,fun _ hn=>hn⟩) h
theorem A0P{f:Nat}{a:D}{H:Heap}{Q:D→Heap→Prop}(sz:Nat)(h:ACalls P f [a,.sl sz []] H Q):ACalls P f [a,.nilsl] H Q:=
 ACalls.shift (args':=[a,.sl sz []]) (fun w vs h1 h2 h3=>⟨h1,fun i d hd=>by
  match i,hd with
  |0,hd=>simp at hd;subst hd;exact h2 0 _ rfl
  |1,hd=>simp at hd;subst hd;exact(h2 1 _ rfl).nil_sl sz
  |i+2,hd=>simp at hd,h3,fun _ hn=>hn⟩) h
end
end Go.Av
end
section
namespace Go.Av
def B(s:ByteArray):List UInt8:=s.data.toList
@[simp] theorem Y7(s:ByteArray):(B s).length=s.size:=by simp[B]
theorem i6{s t:ByteArray}(h:B s=B t):s=t:=by
 apply ByteArray.ext
 unfold B at h
 exact Array.toList_inj.1 h
def S(l:List UInt8):ByteArray:=⟨l.toArray⟩
@[go_sem] theorem l9(l:List UInt8):B (S l)=l:=by simp[B,S]
theorem S_B(s:ByteArray):S (B s)=s:=i6 (l9 _)
@[go_sem] theorem O1(l:List UInt8):(S l).size=l.length:=by rw[←Y7,l9]
theorem C4o{l m:List UInt8}(h:S l=S m):l=m:=by rw[←l9 l,h,l9]
@[go_sem] theorem C89(l:List UInt8):B (ByteArray.mk l.toArray)=l:=l9 l
@[go_sem] theorem u7(x y:ByteArray):B (x++y)=B x++B y:=by simp[B,ByteArray.data_append]
attribute [go_sem] Y7
theorem A6v(s:ByteArray)(l h:Nat):s.extract l h=S (((B s).take h).drop l):=by
 apply i6
 rw[l9]
 simp[B,ByteArray.data_extract,List.extract_eq_take_drop]
 rw[List.drop_take]
theorem A0J(l:List UInt8):B ⟨l.toArray⟩=l:=by simp[B]
def B8E(P:Program)(Z:List (Nat×Rc))(b:Code)(Q:AX→Env→Heap→Prop):AX→Env→Heap→Prop
 | .normal,E,H=>wp P Z b Q E H
 | .exit i,E,H=>Q (.exit i) E H
 | .ret,E,H=>Q .ret E H
def A7w(id:Nat)(Q:AX→Env→Heap→Prop):AX→Env→Heap→Prop
 | .normal,E,H=>Q .normal E H
 | .exit i,E,H=>if i=id then Q .normal E H else Q (.exit i) E H
 | .ret,E,H=>Q .ret E H
def A5d(Q:AX→Env→Heap→Prop)(K:Env→Heap→Prop):AX→Env→Heap→Prop
 | .normal,E,H=>K E H
 | .exit i,E,H=>Q (.exit i) E H
 | .ret,E,H=>Q .ret E H
def B2E(Q:AX→Env→Heap→Prop):Env→Heap→Prop:=fun E H=>Q .normal E H
def B41(P:Program)(Z:List (Nat×Rc))(c:Code)(Q:AX→Env→Heap→Prop)(E:Env)(H:Heap):Prop:=B2D (fun K=>wp P Z c (A5d Q K)) E H
def opK(P:Program)(gs:List (Option Nat))(K:Env→Heap→Prop)(l:List Oper)(dst:Option Nat)(E:Env):D→Heap→Prop:=fun d H=>wpOps P gs K l (E.put dst d) H
def Q8(o:Option D)(K:D→Heap→Prop)(H:Heap):Prop:=∃d,o=some d∧K d H
def A9Y(o:Option Heap)(K:D→Heap→Prop):Prop:=∃H',o=some H'∧K .undef H'
def A9Z(P:Program)(Z:List (Nat×Rc))(c:Operand)(d:D)(x y:Code)(Q:AX→Env→Heap→Prop)(E:Env)(H:Heap):Prop:=∃b,d= .bool b∧(b=true→wp P Z x Q (E.fix c true) H)∧(b=false→wp P Z y Q (E.fix c false) H)
def A0U(P:Program)(gs:List (Option Nat))(K:Env→Heap→Prop)(l:List Oper)(dst:Option Nat)(op:Op)(s:Nat)(d:D)(want:Bool)(E:Env)(H:Heap):Prop:=
 (d= .tuple []∧wpOps P gs K l (E.put dst (.tuple [])) H)∨
 ∃b,d= .bool b∧(b=want→D0 P (Env.ev ((s,.bool want)::E)) H (opK P gs K l dst ((s,.bool want)::E)) op)∧(b= !want→wpOps P gs K l (Env.put ((s,.bool (!want))::E) dst (.tuple [])) H)
def B1B(P:Program)(gs:List (Option Nat))(K:Env→Heap→Prop)(l:List Oper)(dst:Option Nat)(op:Op)(s:Option Nat)(want:Bool)(E:Env)(H:Heap):Prop:=match s with
 |none=>wpOps P gs K l (E.put dst (.tuple [])) H
 |some s=>A0U P gs K l dst op s (E.get s) want E H
def B42(P:Program)(f:D)(args:List D)(H:Heap)(K:D→Heap→Prop):Prop:=match f with
 | .fn (.func g) first captured=>ACalls P g (first++args++captured) H K
 |_=>False
def Fin(Q:D→Heap→Prop)(d:D)(H:Heap):Prop:=∃H' d',Shift H d H' d'∧Q d' H'
def B8F(o:Option D)(Q:D→Heap→Prop)(H:Heap):Prop:=∃r,o=some r∧Fin Q r H
theorem Fin.less{Q:D→Heap→Prop}{d:D}{H H':Heap}(hl:H'.Le H)(h:Q d H'):Fin Q d H:=⟨H',d,.less hl d,h⟩
theorem D0r:type_of% @Fin.less:=@Fin.less
theorem Fin.same{Q:D→Heap→Prop}{d:D}{H:Heap}(h:Q d H):Fin Q d H:=⟨H,d,.less (D0q H) d,h⟩
theorem D0u:type_of% @Fin.same:=@Fin.same
theorem Fin.freeze{Q:D→Heap→Prop}{d d':D}{H:Heap}{b sz:Nat}{es:List (List D)}(hb:H b=some (.vec sz es))(hz:Fz b sz es d d')(h:Fin Q d' (H.del b)):Fin Q d H:=
 let ⟨H',e,h1,h2⟩:=h;⟨H',e,(Shift.freeze hb hz).trans h1,h2⟩
theorem Fin.then{Q:D→Heap→Prop}{d:D}{H H':Heap}(hl:H'.Le H)(h:Fin Q d H'):Fin Q d H:=
 let ⟨H1,e,h1,h2⟩:=h;⟨H1,e,(Shift.less hl d).trans h1,h2⟩
theorem B13{Q:D→Heap→Prop}{ds:List D}{H:Heap}{b sz n:Nat}{es:List (List D)}(hb:H b=some (.vec sz es))(hn:n=es.length)(h:Fin Q (.tuple (.sl sz es::ds)) (H.del b)):Fin Q (.tuple (.vec b sz 0 n::ds)) H:=by
 subst hn
 refine Fin.freeze hb (.tuple _ _ (by simp) fun i d d' h1 h2=>?_) h
 cases i with
 |zero=>simp at h1 h2;subst h1;subst h2;exact .all
 |succ i=>simp at h1 h2;rw[h1]at h2;cases h2;exact .same _
theorem Fin.nilsl{Q:D→Heap→Prop}{H:Heap}(sz:Nat)(ds:List D)(h:Fin Q (.tuple (.sl sz []::ds)) H):Fin Q (.tuple (.nilsl::ds)) H:=
 let ⟨H1,e,h1,h2⟩:=h;⟨H1,e,Shift.trans (fun w v hr hs=>⟨by
  obtain⟨vs,rfl,hl,hr'⟩:=hr.tuple_inv
  refine .tuple _ _ (by simpa using hl) fun i d hd=>?_
  cases i with
  |zero=>simp at hd;subst hd;have:=hr' 0 _ rfl;generalize vs.getD 0 Go.undef=u at this;cases this;exact .sl0 _ _ _
  |succ i=>exact hr' (i+1) d (by simpa using hd),hs,fun _ hn=>hn⟩) h1,h2⟩
theorem A9a{P:Program}{t:Nat}{k:IntKind}(h:P.underlying t=some (.int k)):C7 P t= .int:=by unfold C7;rw[h]
section
variable {P:Program} {Z:List (Nat×Rc)} {Q:AX→Env→Heap→Prop} {E:Env} {H:Heap} {K:Env→Heap→Prop} {gs:List (Option Nat)} {l:List Oper} {KD:D→Heap→Prop} {ev:Operand→D} {bl:List Nat}
@[go_sem] theorem C6J:wp P Z .skip Q E H=Q .normal E H:=rfl
def A4S(P:Program)(gs:List (Option Nat))(ops:List Oper)(K:Env→Heap→Prop)(E:Env)(H:Heap):Option Rc→Prop
 |none=>wpOps P gs K ops E H
 |some (.rd sx)=>∃bl,(∀k∈bl,H k≠none)∧A7u P sx bl K ops E H
 |some .par=>∃(cs:Nat→CR) (bs:Nat→Bl),B3V bs 0 ops∧wpP P gs cs bs K 0 ops E H
 |some (.ord perm)=>∃bl:List Nat,wpG P bl K (perm.map (A1h ops)) E H
 |some .rg=>∃bl,(∀k∈bl,H k≠none)∧X4 P bl gs K ops E H
 |some .wk=>∃E0 H0,A1C E0 H0 E H∧wpOps P gs K ops E0 H0
@[go_sem] theorem C3k(id:Nat)(l:List Oper)(d:Bool):wp P Z (.region id l.toArray d) Q E H=A4S P (l.map (·.dst)) l (B2E Q) E H (A0T id Z):=by
 show (match A0T id Z with|none=>_|some (.rd sx)=>_|some .par=>_|some (.ord perm)=>_|some .rg=>_|some .wk=>_)=_
 unfold A4S
 cases A0T id Z with
 |none=>rfl
 |some r=>cases r<;>rfl
@[go_sem] theorem C1g(id:Nat):A0T id []=none:=rfl
@[go_sem] theorem C0Y(id i:Nat)(sx:Rc)(Z:List (Nat×Rc)):A0T id ((i,sx)::Z)=if id=i then some sx else A0T id Z:=rfl
@[go_sem] theorem C1h(gs:List (Option Nat))(ops:List Oper):A4S P gs ops K E H none=wpOps P gs K ops E H:=rfl
theorem F4{gs:List (Option Nat)}{ops:List Oper}(cs:Nat→D)(bl:List Nat)(h:wpP P gs (fun i=>.c (cs i)) (fun _=>⟨bl,[],[]⟩) K 0 ops E H):A4S P gs ops K E H (some .par):=⟨_,_,A2f bl _ _,h⟩
theorem B2F{gs:List (Option Nat)}{ops:List Oper}(cs:Nat→CR)(bl:List Nat)(h:wpP P gs cs (fun _=>⟨bl,[],[]⟩) K 0 ops E H):A4S P gs ops K E H (some .par):=⟨cs,_,A2f bl _ _,h⟩
theorem C1i{gs:List (Option Nat)}{ops:List Oper}{perm:List Nat}(bl:List Nat)(h:wpG P bl K (perm.map (A1h ops)) E H):A4S P gs ops K E H (some (.ord perm)):=⟨bl,h⟩
def gK(P:Program)(bl:List Nat)(K:Env→Heap→Prop)(l:List (Option Oper))(dst:Option Nat)(E:Env)(H:Heap):D→Heap→Prop:=fun d H'=>(∀k∈bl,H' k=H k)∧wpG P bl K l (E.put dst d) H'
@[go_sem] theorem C7C(bl:List Nat)(K:Env→Heap→Prop)(l:List (Option Oper))(dst:Option Nat)(E:Env)(H H':Heap)(d:D):gK P bl K l dst E H d H'=((∀k∈bl,H' k=H k)∧wpG P bl K l (E.put dst d) H'):=rfl
@[go_sem] theorem C8Q(bl:List Nat):wpG P bl K [] E H=K E H:=rfl
@[go_sem] theorem C7D(bl:List Nat)(l:List (Option Oper))(dst:Option Nat)(t:Nat)(x:Operand)(ty:Nat)(pos:String)(after:Array Edge)(gd:Option (Nat×Bool)):
  wpG P bl K (some ⟨dst,.load t x,ty,pos,after,gd⟩::l) E H=((∀b∈rdB (E.ev x),b∈bl)∧D0 P E.ev H (gK P bl K l dst E H) (.load t x)):=by
 show ((I5 P (.load t x)= .load→_)∧_)=_
 simp only[I5,true_implies,B4x];rfl
def B2G:Op→Bool
 | .load .. =>false
 |_=>true
theorem B43{op:Op}(h:I5 P op= .load):B2G op=false:=by
 cases op
 case load=>rfl
 case convert s t x=>simp only[I5]at h;split at h<;>cases h
 case call cc=>
  obtain⟨c,as_,ts⟩:=cc
  cases c with
  |builtin b=>
   cases b<;>simp only[I5]at h<;>first|cases h|(split at h<;>cases h)
  |_=>simp[I5]at h
 all_goals (simp[I5]at h)
theorem C7E(bl:List Nat)(l:List (Option Oper))(dst:Option Nat)(op:Op)(ty:Nat)(pos:String)(after:Array Edge)(gd:Option (Nat×Bool))(h:B2G op=true):
  wpG P bl K (some ⟨dst,op,ty,pos,after,gd⟩::l) E H=D0 P E.ev H (gK P bl K l dst E H) op:=by
 have hc:I5 P op≠ .load:=fun g=>by rw[B43 g]at h;cases h
 show ((I5 P op= .load→_)∧_)=_
 simp only[hc,false_implies,true_and];rfl
@[go_sem] theorem C6K(t:Nat)(a x:Operand)(bl:List Nat)(l:List (Option Oper))(dst:Option Nat)(ty:Nat)(pos:String)(after:Array Edge)(gd:Option (Nat×Bool)):wpG P bl K (some ⟨dst,.store t a x,ty,pos,after,gd⟩::l) E H=D0 P E.ev H (gK P bl K l dst E H) (.store t a x):=C7E _ _ _ _ _ _ _ _ rfl
@[go_sem] theorem C3l(o:Oper)(l:List Oper):A1h (o::l) 0=some o:=rfl
@[go_sem] theorem C3m(o:Oper)(l:List Oper)(i:Nat):A1h (o::l) (i+1)=A1h l i:=rfl
@[go_sem] theorem C7F(a b:Code):wp P Z (.seq a b) Q E H=wp P Z a (B8E P Z b Q) E H:=by
 show wp P Z a _ E H=wp P Z a _ E H
 congr 1;funext x;cases x<;>rfl
@[go_sem] theorem C6L(c:Operand)(x y:Code):wp P Z (.cond c x y) Q E H=A9Z P Z c (E.ev c) x y Q E H:=rfl
@[go_sem] theorem C4p(id:Nat)(c:Code):wp P Z (.block id c) Q E H=wp P Z c (A7w id Q) E H:=by
 show wp P Z c _ E H=wp P Z c _ E H
 congr 1;funext x;cases x<;>rfl
@[go_sem] theorem C6M(c:Code):wp P Z (.loop c) Q E H=B41 P Z c Q E H:=by
 show B2D _ E H=B2D _ E H
 congr 1;funext K;congr 1;funext x;cases x<;>rfl
@[go_sem] theorem C6N(id:Nat):wp P Z (.exit id) Q E H=Q (.exit id) E H:=rfl
@[go_sem] theorem C7G:wp P Z .ret Q E H=Q .ret E H:=rfl
@[go_sem] theorem C4q(c:Code):wp P Z (.scope c) Q E H=wp P Z c Q E H:=rfl
@[go_sem] theorem C4r(l:Nat):wp P Z (.label l) Q E H=Q .normal E H:=rfl
@[go_sem] theorem C0Z(b:Code):B8E P Z b Q .normal E H=wp P Z b Q E H:=rfl
@[go_sem] theorem C3n(b:Code)(i:Nat):B8E P Z b Q (.exit i) E H=Q (.exit i) E H:=rfl
@[go_sem] theorem C4s(b:Code):B8E P Z b Q .ret E H=Q .ret E H:=rfl
@[go_sem] theorem B7l(i:Nat):A7w i Q .normal E H=Q .normal E H:=rfl
@[go_sem] theorem C0a(i j:Nat):A7w i Q (.exit j) E H=if j=i then Q .normal E H else Q (.exit j) E H:=rfl
@[go_sem] theorem C1j(i:Nat):A7w i Q .ret E H=Q .ret E H:=rfl
@[go_sem] theorem B8G:A5d Q K .normal E H=K E H:=rfl
@[go_sem] theorem C1k(j:Nat):A5d Q K (.exit j) E H=Q (.exit j) E H:=rfl
@[go_sem] theorem C3o:A5d Q K .ret E H=Q .ret E H:=rfl
@[go_sem] theorem C0b:B2E Q E H=Q .normal E H:=rfl
theorem A2i(c:Operand)(b:Bool)(x y:Code):A9Z P Z c (.bool b) x y Q E H=((b=true→wp P Z x Q (E.fix c true) H)∧(b=false→wp P Z y Q (E.fix c false) H)):=by
 unfold A9Z
 simp only[D.bool.injEq,exists_eq_left']
attribute [go_sem low] A2i
@[go_sem high] theorem C1l(c:Operand)(x y:Code):A9Z P Z c (.bool true) x y Q E H=wp P Z x Q (E.fix c true) H:=by rw[A2i];simp
@[go_sem high] theorem C0c(c:Operand)(x y:Code):A9Z P Z c (.bool false) x y Q E H=wp P Z y Q (E.fix c false) H:=by rw[A2i];simp
@[go_sem] theorem C6O(t:Nat)(b:Bool):Env.fix E (.tmp t) b=(t,.bool b)::E:=rfl
@[go_sem] theorem C6P:wpOps P gs K [] E H=K E H:=rfl
@[go_sem] theorem C4t(dst:Option Nat)(op:Op)(ty:Nat)(pos:String)(after:Array Edge):wpOps P gs K (⟨dst,op,ty,pos,after,none⟩::l) E H=D0 P (Env.ev E) H (opK P gs K l dst E) op:=rfl
@[go_sem] theorem C3p(dst:Option Nat)(op:Op)(ty:Nat)(pos:String)(after:Array Edge)(j:Nat)(want:Bool):
  wpOps P gs K (⟨dst,op,ty,pos,after,some (j,want)⟩::l) E H=B1B P gs K l dst op (G9 gs j) want E H:=by
 rw[wpOps]
 simp only[]
 unfold A1e B1B
 cases G9 gs j<;>rfl
@[go_sem] theorem B44(g:Option Nat)(gs:List (Option Nat)):G9 (g::gs) 0=g:=rfl
@[go_sem] theorem B45(g:Option Nat)(gs:List (Option Nat))(j:Nat):G9 (g::gs) (j+1)=G9 gs j:=by simp[G9]
@[go_sem] theorem C0d(dst:Option Nat)(op:Op)(s:Nat)(want:Bool):B1B P gs K l dst op (some s) want E H=A0U P gs K l dst op s (E.get s) want E H:=rfl
theorem Y8(dst:Option Nat)(op:Op)(s:Nat)(b want:Bool):A0U P gs K l dst op s (.bool b) want E H=
  ((b=want→D0 P (Env.ev ((s,.bool want)::E)) H (opK P gs K l dst ((s,.bool want)::E)) op)∧(b= !want→wpOps P gs K l (Env.put ((s,.bool (!want))::E) dst (.tuple [])) H)):=by
 unfold A0U
 simp only[D.bool.injEq,exists_eq_left',reduceCtorEq,false_and,false_or]
attribute [go_sem low] Y8
@[go_sem high] theorem C0e(dst:Option Nat)(op:Op)(s:Nat)(want:Bool):A0U P gs K l dst op s (.tuple []) want E H=wpOps P gs K l (E.put dst (.tuple [])) H:=by
 unfold A0U
 simp
@[go_sem high] theorem C3q(dst:Option Nat)(op:Op)(s:Nat):A0U P gs K l dst op s (.bool true) true E H=D0 P (Env.ev ((s,.bool true)::E)) H (opK P gs K l dst ((s,.bool true)::E)) op:=by rw[Y8];simp
@[go_sem high] theorem C3r(dst:Option Nat)(op:Op)(s:Nat):A0U P gs K l dst op s (.bool false) false E H=D0 P (Env.ev ((s,.bool false)::E)) H (opK P gs K l dst ((s,.bool false)::E)) op:=by rw[Y8];simp
@[go_sem high] theorem C3s(dst:Option Nat)(op:Op)(s:Nat):A0U P gs K l dst op s (.bool true) false E H=wpOps P gs K l (Env.put ((s,.bool true)::E) dst (.tuple [])) H:=by rw[Y8];simp
@[go_sem high] theorem C3t(dst:Option Nat)(op:Op)(s:Nat):A0U P gs K l dst op s (.bool false) true E H=wpOps P gs K l (Env.put ((s,.bool false)::E) dst (.tuple [])) H:=by rw[Y8];simp
@[go_sem] theorem C6Q(dst:Option Nat)(d:D):opK P gs K l dst E d H=wpOps P gs K l (Env.put E dst d) H:=rfl
def C4u(P:Program)(bl:List Nat)(gs:List (Option Nat))(K:Env→Heap→Prop)(l:List Oper)(dst:Option Nat)(E:Env):D→Heap→Prop:=fun d H=>X4 P bl gs K l (E.put dst d) H
def B46(P:Program)(bl:List Nat)(gs:List (Option Nat))(K:Env→Heap→Prop)(l:List Oper)(dst:Option Nat)(op:Op)(s:Nat)(d:D)(want:Bool)(E:Env)(H:Heap):Prop:=
 (d= .tuple []∧X4 P bl gs K l (E.put dst (.tuple [])) H)∨
 ∃b,d= .bool b∧(b=want→A5M P bl (Env.ev ((s,.bool want)::E)) H (C4u P bl gs K l dst ((s,.bool want)::E)) op)∧(b= !want→X4 P bl gs K l (Env.put ((s,.bool (!want))::E) dst (.tuple [])) H)
theorem A9b(dst:Option Nat)(op:Op)(s:Nat)(b want:Bool):B46 P bl gs K l dst op s (.bool b) want E H=
  ((b=want→A5M P bl (Env.ev ((s,.bool want)::E)) H (C4u P bl gs K l dst ((s,.bool want)::E)) op)∧(b= !want→X4 P bl gs K l (Env.put ((s,.bool (!want))::E) dst (.tuple [])) H)):=by
 unfold B46;apply propext;constructor
 ·rintro(⟨h,_⟩|⟨b',h,h1⟩)
  ·cases h
  ·cases h;exact h1
 ·exact fun h=>.inr ⟨b,rfl,h⟩
attribute [go_sem low] A9b
def roH(H:Heap):Heap:=fun k=>match H k with
 |some (.ro cs)=>some (.ro cs)
 |_=>none
theorem B1C{H:Heap}{k:Nat}{cs:List D}(h:H k=some (.ro cs)):roH H k=some (.ro cs):=by unfold roH;rw[h]
theorem A7x(H:Heap):(roH H).Le H:=fun k o h=>by
 unfold roH at h
 split at h
 ·rename_i cs e;cases h;exact e
 ·cases h
theorem A3C(H:Heap)(k:Nat):(roH H).held k=false:=by
 cases h:roH H k with
 |none=>exact G8 h
 |some o=>
  have h2:=h
  unfold roH at h2
  split at h2
  ·cases h2;rw[I6 h];rfl
  ·cases h2
theorem C1m(H:Heap):H.sub (roH H)=H:=by
 funext k;unfold Heap.sub;rw[A3C];simp
@[go_sem] theorem A3y(d:D):Q8 (some d) KD H=KD d H:=by simp[Q8]
@[go_sem] theorem C4v(c:Prop) [Decidable c] (a:Option D):Q8 (if c then a else none) KD H=(c∧Q8 a KD H):=by
 by_cases h:c<;>simp[h,Q8]
@[go_sem] theorem C3u(H':Heap):A9Y (some H') KD=KD .undef H':=by simp[A9Y]
@[go_sem] theorem C4w(c:Prop) [Decidable c] (a:Option Heap):A9Y (if c then a else none) KD=(c∧A9Y a KD):=by
 by_cases h:c<;>simp[h,A9Y]
def tt:D→Heap→Prop:=fun _ _=>True
variable {sx:Bool} {bl:List Nat}
@[go_sem] theorem C6R(i j:Nat)(d:D)(E:Env):Env.get ((i,d)::E) j=if i=j then d else Env.get E j:=rfl
@[go_sem] theorem C6S(i:Nat)(d:D):Env.put E (some i) d=(i,d)::E:=rfl
@[go_sem] theorem B8H(d:D):Env.put E none d=E:=rfl
@[go_sem] theorem C7H(t:Nat):Env.ev E (.tmp t)=Env.get E t:=rfl
@[go_sem] theorem C7I(k:IntKind)(n:Int):Env.ev E (.const (.int k n))= .int k n:=rfl
@[go_sem] theorem C6T(b:Bool):Env.ev E (.const (.bool b))= .bool b:=rfl
@[go_sem] theorem C7J(s:ByteArray):Env.ev E (.const (.string s))= .str s:=rfl
@[go_sem] theorem C4x:Env.ev E (.const (.slice none 0 0))= .nilsl:=rfl
@[go_sem] theorem C3v:Env.ev E (.const (.map none))= .nilmap:=rfl
@[go_sem] theorem C4y:Env.ev E (.const .nilIface)= .nilif:=rfl
@[go_sem] theorem C6U(f:Nat):Env.ev E (.func f)= .fn (.func f) [] []:=rfl
@[go_sem] theorem C7K(x:Operand):D0 P ev H KD (.move x)=KD (ev x) H:=A3y _
@[go_sem] theorem C4z(x:Operand):D0 P ev H KD (.assign x)=KD (ev x) H:=A3y _
def B2H:D→D→D→Option D
 | .bool t,a,b=>some (if t then a else b)
 |_,_,_=>none
@[go_sem high] theorem C3w(a b:D):B2H (.bool true) a b=some a:=rfl
@[go_sem high] theorem C1n(a b:D):B2H (.bool false) a b=some b:=rfl
@[go_sem] theorem C7L(c a b:Operand):D0 P ev H KD (.pick c a b)=Q8 (B2H (ev c) (ev a) (ev b)) KD H:=by
 show Q8 _ KD H=_
 simp only[J9,B2H]
 congr 1
 cases ev c<;>rfl
def A7y:D→Option D
 | .box b off=>some (.box b off)
 | .el b sz i off=>some (.el b sz i off)
 | .ro cs=>some (.ro cs)
 | .fn (.func f) a b=>some (.fn (.func f) a b)
 |_=>none
@[go_sem] theorem C3x(b off:Nat):A7y (.box b off)=some (.box b off):=rfl
@[go_sem] theorem C40(b sz i off:Nat):A7y (.el b sz i off)=some (.el b sz i off):=rfl
@[go_sem] theorem C6V(x:Operand):D0 P ev H KD (.nilCheck x)=Q8 (A7y (ev x)) KD H:=by
 show Q8 _ KD H=_
 simp only[J9,A7y]
 generalize ev x=d
 cases d<;>rfl
@[go_sem] theorem C8R(op:BinOp)(t:Nat)(x y:Operand)(yt:Nat):D0 P ev H KD (.binOp op t x y yt)=Q8 (A1Z P op t (J7 x||J7 y) (ev x) (ev y)) KD H:=rfl
@[go_sem] theorem C9A(op:UnOp)(t:Nat)(x:Operand):D0 P ev H KD (.unOp op t x)=Q8 (unD op (ev x)) KD H:=rfl
@[go_sem] theorem C6W(t:Nat)(x:Operand)(f:Nat):D0 P ev H KD (.fieldAddr t x f)=Q8 (W9 P t (ev x) f) KD H:=rfl
@[go_sem] theorem C6X(t:Nat)(x i:Operand):D0 P ev H KD (.indexAddr t x i)=Q8 (P4 P t (ev x) (ev i)) KD H:=rfl
@[go_sem] theorem C6Y(t:Nat)(x i:Operand):D0 P ev H KD (.index t x i)=Q8 (A5H P t (ev x) (ev i)) KD H:=rfl
@[go_sem] theorem C6Z(t:Nat)(x:Operand)(lo hi:Option Operand):D0 P ev H KD (.slice t x lo hi none)=Q8 (T8 P t (ev x) (lo.map ev) (hi.map ev)) KD H:=rfl
def A5e:D→Nat→Option D
 | .tuple ds,i=>ds[i]?
 |_,_=>none
@[go_sem] theorem B7m(ds:List D)(i:Nat):A5e (.tuple ds) i=ds[i]? :=rfl
@[go_sem] theorem C3y(x:Operand)(i:Nat):D0 P ev H KD (.extract x i)=Q8 (A5e (ev x) i) KD H:=by
 show Q8 _ KD H=_
 simp only[J9,A5e]
 congr 1
 cases ev x<;>rfl
@[go_sem] theorem C7M(t:Nat)(x:Operand):D0 P ev H KD (.load t x)=Q8 (s8 P t (ev x) H) KD H:=rfl
@[go_sem] theorem C6a(t:Nat)(a x:Operand):D0 P ev H KD (.store t a x)=A9Y (X2 P t (ev a) (ev x) H) KD:=rfl
def B1D(z:Option (List D))(Z:Option TypeId)(H:Heap)(KD:D→Heap→Prop):Prop:=∃c,z=some c∧∀b,H b=none→KD (.box b 0) (H.set b (.box c Z))
@[go_sem] theorem C6b(t:Nat):D0 P ev H KD (.alloc t)=B1D (F8 P t) (A1V P t) H KD:=rfl
@[go_sem] theorem C0f(c:List D)(Z:Option TypeId):B1D (some c) Z H KD= ∀b,H b=none→KD (.box b 0) (H.set b (.box c Z)):=by simp[B1D]
@[go_sem] theorem C8S(t:Nat)(x:Operand):D0 P ev H KD (.box t x)=((ev x).cells.all D.one=true∧∀b,H b=none→KD (.box b 0) (H.set b (.box (ev x).cells))):=rfl
@[go_sem] theorem C7N(f:Operand)(args:List Operand)(ts:Array Nat):D0 P ev H KD (.call ⟨.value f,args.toArray,ts⟩)=B42 P (ev f) (args.map ev) H KD:=by
 show (match ev f with| .fn (.func g) first captured=>ACalls P g (first++args.toArray.toList.map ev++captured) H KD|_=>False)=_
 unfold B42
 rfl
@[go_sem] theorem C41(g:Nat)(fs as_ cs:List D):B42 P (.fn (.func g) fs cs) as_ H KD=ACalls P g (fs++as_++cs) H KD:=rfl
def C42:Option Obj→Option (List (D×D))
 |some (.map kvs)=>some kvs
 |_=>none
@[go_sem] theorem C43(kvs:List (D×D)):C42 (some (.map kvs))=some kvs:=rfl
@[go_sem] theorem C6c(b:Nat):W5 H (.map b)=C42 (H b):=by
 simp only[W5]
 generalize H b=o
 cases o with
 |none=>rfl
 |some o=>cases o<;>rfl
@[go_sem] theorem C7O(kvs:List (D×D)):W5 H (.fm kvs)=some kvs:=rfl
def B47(o:Option (List (D×D)))(KD:List (D×D)→Prop):Prop:=∃kvs,o=some kvs∧KD kvs
@[go_sem] theorem C3z(kvs:List (D×D))(K:List (D×D)→Prop):B47 (some kvs) K=K kvs:=by simp[B47]
def B48(bs:Q0)(P:Program)(t:Nat)(d:D)(H:Heap)(KD:D→Heap→Prop):Prop:=match bs with
 | .map=>B47 (W5 H d) fun kvs=>KD (.int .i64 kvs.length) H
 |_=>Q8 (A5G P t d) KD H
@[go_sem] theorem C44(t:Nat)(d:D):B48 .map P t d H KD=B47 (W5 H d) fun kvs=>KD (.int .i64 kvs.length) H:=rfl
@[go_sem] theorem C1o(t:Nat)(d:D):B48 .slice P t d H KD=Q8 (A5G P t d) KD H:=rfl
@[go_sem] theorem C45(t:Nat)(d:D):B48 .str P t d H KD=Q8 (A5G P t d) KD H:=rfl
@[go_sem] theorem C8T(x:Operand)(t:Nat):D0 P ev H KD (.call ⟨.builtin .len,#[x],#[t]⟩)=B48 (C7 P t) P t (ev x) H KD:=by
 unfold B48 C7
 cases hu:P.underlying t with
 |none=>simp[D0,I5,hu,Q8,J9]
 |some u=>cases u<;>simp[D0,I5,hu,Q8,B47,J9]
def B8I(bs:Q0)(d:D):Option D:=match d with
 | .nilsl=>if bs= .slice then some (.int .i64 0)else none
 |_=>none
@[go_sem] theorem C46:B8I .slice .nilsl=some (.int .i64 0):=rfl
def B2I(z:Option D)(kvs:Option (List (D×D)))(kk:KK)(k:D)(ok:Bool):Option D:=match z,kvs with
 |some z,some kvs=>(O8 kk k kvs 0).map (A2c ok z)
 |_,_=>none
@[go_sem] theorem C1p(z k:D)(kvs:List (D×D))(kk:KK)(ok:Bool):B2I (some z) (some kvs) kk k ok=(O8 kk k kvs 0).map (A2c ok z):=rfl
def B49(T:Option (TypeId×TypeId×KK))(P:Program)(m k:D)(ok:Bool)(H:Heap):Option D:=match T with
 |some (_,et,kk)=>if R1 kk k=true then B2I (A5K P et) (W5 H m) kk k ok else none
 |none=>none
@[go_sem] theorem C1q(kt et:TypeId)(kk:KK)(m k:D)(ok:Bool):B49 (some (kt,et,kk)) P m k ok H=if R1 kk k=true then B2I (A5K P et) (W5 H m) kk k ok else none:=rfl
@[go_sem] theorem C47(t:Nat)(m k:Operand)(ok:Bool):D0 P ev H KD (.lookup t m k ok)=Q8 (B49 (A22 P t) P (ev m) (ev k) ok H) KD H:=by
 show Q8 (A05 P t (ev m) (ev k) ok H) KD H=_
 unfold A05 B49 B2I
 cases A22 P t with
 |none=>rfl
 |some T=>
  obtain⟨kt,et,kk⟩:=T
  simp only[C9t]
  cases A5K P et<;>cases W5 H (ev m)<;>simp
@[go_sem] theorem C48(z d:D)(i:Nat):A2c true z (some (i,d))= .tuple [d,.bool true]:=rfl
@[go_sem] theorem C49(z:D):A2c true z none= .tuple [z,.bool false]:=rfl
@[go_sem] theorem C30(b:Q0)(s:ByteArray):R1 (.one b) (.str s)=true:=rfl
def B2J(o:Option Obj)(b:Nat)(kk:KK)(k x:D)(H:Heap):Option Heap:=match o with
 |some (.map kvs)=>(O8 kk k kvs 0).map fun r=>H.set b (.map (A5L kvs k x r))
 |_=>none
@[go_sem] theorem C31(kvs:List (D×D))(b:Nat)(kk:KK)(k x:D):B2J (some (.map kvs)) b kk k x H=(O8 kk k kvs 0).map fun r=>H.set b (.map (A5L kvs k x r)):=rfl
def B5A(T:Option (TypeId×TypeId×KK))(m k x:D)(H:Heap):Option Heap:=match T,m with
 |some (_,_,kk),.map b=>if R1 kk k=true then B2J (H b) b kk k x H else none
 |_,_=>none
@[go_sem] theorem C1r(kt et:TypeId)(kk:KK)(b:Nat)(k x:D):B5A (some (kt,et,kk)) (.map b) k x H=if R1 kk k=true then B2J (H b) b kk k x H else none:=rfl
@[go_sem] theorem C0g(t:Nat)(m k x:Operand):D0 P ev H KD (.mapUpdate t m k x)=A9Y (B5A (A22 P t) (ev m) (ev k) (ev x) H) KD:=by
 show A9Y (A23 P t (ev m) (ev k) (ev x) H) KD=_
 unfold A23 B5A B2J
 cases A22 P t with
 |none=>rfl
 |some T=>
  obtain⟨kt,et,kk⟩:=T
  simp only[C9t]
  cases ev m<;>try(simp;done)
  rename_i b
  simp only
  cases H b with
  |none=>simp
  |some o=>cases o<;>simp
@[go_sem] theorem C32(t:Nat):D0 P ev H KD (.makeMap t none)= ∀b,H b=none→KD (.map b) (H.set b (.map [])):=rfl
@[go_sem] theorem C8U(x:Operand)(t:Nat):D0 P ev H KD (.call ⟨.builtin .cap,#[x],#[t]⟩)=Q8 (B8I (C7 P t) (ev x)) KD H:=by
 have e:J9 P ev (.call ⟨.builtin .cap,#[x],#[t]⟩)=B8I (C7 P t) (ev x):=by
  simp only[J9,List.getElem?_toArray,List.getElem?_cons_zero,Option.map_some]
  unfold B8I
  cases ev x<;>rfl
 show (∃d,J9 P ev (.call ⟨.builtin .cap,#[x],#[t]⟩)=some d∧KD d H)=_
 rw[e];rfl
@[go_sem] theorem C8V(x y:Operand)(ts:Array Nat):D0 P ev H KD (.call ⟨.builtin .max,#[x,y],ts⟩)=Q8 (A6i (ev x) (ev y)) KD H:=by
 show Q8 (A6j A6i [ev x,ev y]) KD H=_
 simp[A6j]
@[go_sem] theorem C5A(s x:Operand)(t t':Nat):D0 P ev H KD (.call ⟨.builtin .append,#[s,x],#[t,t']⟩)=A04 P ev H KD t t' s x:=rfl
def C1s(P:Program)(t:Nat)(d:D):Option D:=if C7 P t= .iface∨(P.underlying t).isNone then none else some (.iface t d)
@[go_sem] theorem C33(t:Nat)(x:Operand):D0 P ev H KD (.makeInterface t x)=Q8 (C1s P t (ev x)) KD H:=rfl
@[go_sem] theorem C7P(fn:Fn)(fs cs:List Operand):D0 P ev H KD (.makeFunc fn fs.toArray cs.toArray)=KD (.fn fn (fs.map ev) (cs.map ev)) H:=by
 show Q8 _ KD H=_
 simp[J9,A3y]
def A7z(P:Program)(t:Nat)(ps:List (Nat×D)):Option D:=match C7 P t with
  | .struct=>(F8 P t).bind fun z=>(K6 P t).bind fun fs=>(d9 (fun i=>(fs[i]?).map fun f=>(f.1,f.2.2)) z ps).map .agg
  | .other=>(F8 P t).bind fun z=>(B0u P t).bind fun s=>(d9 (fun i=>some (i*s.2,s.2)) z ps).map .agg
  |_=>none
def B5B(z:Option (List D))(s:Option (Nat×Nat))(ps:List (Nat×D)):Option D:=match z,s with
 |some z,some s=>(d9 (fun i=>some (i*s.2,s.2)) z ps).map .agg
 |_,_=>none
def B1E(b:Q0)(z:Option (List D))(fs:Option (List (Nat×Bool×Nat)))(s:Option (Nat×Nat))(ps:List (Nat×D)):Option D:=match b with
 | .struct=>match z,fs with
  |some z,some fs=>(d9 (fun i=>(fs[i]?).map fun f=>(f.1,f.2.2)) z ps).map .agg
  |_,_=>none
 | .other=>B5B z s ps
 |_=>none
@[go_sem] theorem C34(t:Nat)(ps:List (Nat×D)):A7z P t ps=B1E (C7 P t) (F8 P t) (K6 P t) (B0u P t) ps:=by
 unfold A7z B1E B5B
 cases C7 P t<;>try rfl
 ·cases F8 P t<;>try rfl
  cases K6 P t<;>rfl
 ·cases F8 P t<;>try rfl
  cases B0u P t<;>rfl
@[go_sem] theorem C0h(z:List D)(fs:List (Nat×Bool×Nat))(s:Option (Nat×Nat))(ps:List (Nat×D)):B1E .struct (some z) (some fs) s ps=(d9 (fun i=>(fs[i]?).map fun f=>(f.1,f.2.2)) z ps).map .agg:=rfl
@[go_sem] theorem C5B(pl:Nat→Option (Nat×Nat))(cs:List D):d9 pl cs []=some cs:=rfl
def B5C(o:Option (Nat×Nat))(pl:Nat→Option (Nat×Nat))(cs:List D)(d:D)(ps:List (Nat×D)):Option (List D):=match o with
 |none=>none
 |some (off,size)=>if d.cells.length=size∧off+size≤cs.length∧d.cells.all D.one=true then d9 pl (O7 cs off d.cells) ps else none
@[go_sem] theorem C35(pl:Nat→Option (Nat×Nat))(cs:List D)(i:Nat)(d:D)(ps:List (Nat×D)):d9 pl cs ((i,d)::ps)=B5C (pl i) pl cs d ps:=by
 rw[d9];unfold B5C;cases pl i<;>rfl
@[go_sem] theorem C1t(off size:Nat)(pl:Nat→Option (Nat×Nat))(cs:List D)(d:D)(ps:List (Nat×D)):B5C (some (off,size)) pl cs d ps=if d.cells.length=size∧off+size≤cs.length∧d.cells.all D.one=true then d9 pl (O7 cs off d.cells) ps else none:=rfl
@[go_sem] theorem C6d(t:Nat)(ps:List (Nat×Operand)):D0 P ev H KD (.build t ps.toArray)=Q8 (A7z P t (ps.map fun p=>(p.1,ev p.2))) KD H:=by
 show Q8 _ KD H=_
 simp only[J9,A7z]
 cases C7 P t<;>rfl
variable {t:Nat} {c:Bool} {k:IntKind} {a b:Int}
@[go_sem] theorem C8W:J8 P .add t c (.int k a) (.int k b)=some (.int k (k.wrap (a+b))):=by simp[J8,A20]
@[go_sem] theorem C8X:J8 P .sub t c (.int k a) (.int k b)=some (.int k (k.wrap (a-b))):=by simp[J8,A20]
@[go_sem] theorem C8Y:J8 P .mul t c (.int k a) (.int k b)=some (.int k (k.wrap (a*b))):=by simp[J8,A20]
@[go_sem] theorem C8Z:J8 P .quo t c (.int k a) (.int k b)=if b=0 then none else some (.int k (k.wrap (a.tdiv b))):=by simp[J8,A20]
@[go_sem] theorem C8a:J8 P .rem t c (.int k a) (.int k b)=if b=0 then none else some (.int k (a.tmod b)):=by simp[J8,A20]
@[go_sem] theorem C8b:J8 P .eql t c (.int k a) (.int k b)=some (.bool (decide (a=b))):=by simp[J8,A20];rfl
@[go_sem] theorem C8c:J8 P .neq t c (.int k a) (.int k b)=some (.bool (!decide (a=b))):=by simp[J8,A20];rfl
@[go_sem] theorem C8d:J8 P .lss t c (.int k a) (.int k b)=some (.bool (decide (a<b))):=by simp[J8,A20]
@[go_sem] theorem C8e:J8 P .leq t c (.int k a) (.int k b)=some (.bool (decide (a≤b))):=by simp[J8,A20]
@[go_sem] theorem C8f:J8 P .gtr t c (.int k a) (.int k b)=some (.bool (decide (b<a))):=by simp[J8,A20]
@[go_sem] theorem C8g:J8 P .geq t c (.int k a) (.int k b)=some (.bool (decide (b≤a))):=by simp[J8,A20]
@[go_sem] theorem C7Q(x y:ByteArray):J8 P .add t c (.str x) (.str y)=if x.size+y.size≤9223372036854775807 then some (.str (x++y))else none:=rfl
@[go_sem] theorem C7R(x y:ByteArray):J8 P .eql t c (.str x) (.str y)=some (.bool (decide (B x=B y))):=by
 show some (D.bool (x.data.toList==y.data.toList))=_
 unfold B;generalize x.data.toList=a;generalize y.data.toList=b;by_cases h:a=b<;>simp[h]
@[go_sem] theorem C7S(x y:ByteArray):J8 P .neq t c (.str x) (.str y)=some (.bool (!decide (B x=B y))):=by
 show some (D.bool (!(x.data.toList==y.data.toList)))=_
 unfold B;generalize x.data.toList=a;generalize y.data.toList=b;by_cases h:a=b<;>simp[h]
@[go_sem] theorem C7T(x y:ByteArray):J8 P .lss t c (.str x) (.str y)=some (.bool (Op.bytesLess x.data.toList y.data.toList)):=rfl
@[go_sem] theorem C7U(x y:Bool):J8 P .eql t c (.bool x) (.bool y)=if C7 P t= .bool then some (.bool (x==y))else none:=rfl
@[go_sem] theorem C7V(x y:Bool):J8 P .neq t c (.bool x) (.bool y)=if C7 P t= .bool then some (.bool (!(x==y)))else none:=rfl
@[go_sem] theorem C7W(x:Bool):unD .not (.bool x)=some (.bool (!x)):=rfl
@[go_sem] theorem C7X:unD .neg (.int k a)=some (.int k (k.wrap (0-a))):=rfl
@[go_sem] theorem C5C(k':IntKind):A6i (.int k a) (.int k' b)=some (.int k (if a<b then b else a)):=rfl
@[go_sem] theorem C7Y(op:BinOp)(y:D):A1Z P op t c (.int k a) y=J8 P op t c (.int k a) y:=by cases op<;>rfl
@[go_sem] theorem C7Z(op:BinOp)(x:ByteArray)(y:D):A1Z P op t c (.str x) y=J8 P op t c (.str x) y:=by cases op<;>rfl
@[go_sem] theorem C6e(op:BinOp)(x:Bool)(y:D):A1Z P op t c (.bool x) y=J8 P op t c (.bool x) y:=by cases op<;>rfl
@[go_sem] theorem C5D(op:BinOp)(y:D):A1Z P op t c .nilif y=J8 P op t c .nilif y:=by cases op<;>rfl
@[go_sem] theorem C8h(op:BinOp)(n:Nat)(es:List (List D))(y:D):A1Z P op t c (.sl n es) y=J8 P op t c (.sl n es) y:=by cases op<;>rfl
@[go_sem] theorem C5E(op:BinOp)(u:Nat)(d y:D):A1Z P op t c (.iface u d) y=J8 P op t c (.iface u d) y:=by cases op<;>rfl
def C1u(l:Option (List (Nat×Q0)))(xs ys:List D):Option Bool:=l.bind fun fs=>T7 fs xs ys
theorem A5f{sz:Nat}{es:List (List D)}(he:es≠[])(hb:C7 P t= .slice):J8 P .eql t true (.sl sz es) .nilsl=some (.bool false):=by
 cases es with
 |nil=>exact absurd rfl he
 |cons e es=>simp[J8,A5F,A80,hb]
@[go_sem] theorem C1v(xs ys:List D):A1Z P .neq t c (.agg xs) (.agg ys)=(C1u (A02 P t) xs ys).map fun b=>.bool (!b):=by
 show (A02 P t).bind _=_
 unfold C1u;cases A02 P t<;>rfl
@[go_sem] theorem C36(fs:List (Nat×Q0))(xs ys:List D):C1u (some fs) xs ys=T7 fs xs ys:=rfl
@[go_sem] theorem C37(xs ys:List D):T7 [] xs ys=some true:=rfl
def B5D(x y:Option D)(bs:Q0)(r:Option Bool):Option Bool:=match x,y with
 |some x,some y=>(T6 bs x y).bind fun c=>r.map (c&& ·)
 |_,_=>none
@[go_sem] theorem C1w(o:Nat)(bs:Q0)(fs:List (Nat×Q0))(xs ys:List D):T7 ((o,bs)::fs) xs ys=B5D xs[o]? ys[o]? bs (T7 fs xs ys):=rfl
@[go_sem] theorem C5F(k:IntKind)(a b:Int)(r:Option Bool):B5D (some (.int k a)) (some (.int k b)) .int r=r.map (decide (a=b)&& ·):=by
 simp[B5D,T6];rfl
@[go_sem] theorem C5G(a b:ByteArray)(r:Option Bool):B5D (some (.str a)) (some (.str b)) .str r=r.map (decide (B a=B b)&& ·):=by
 have:(a.data.toList==b.data.toList)=decide (B a=B b):=by
  unfold B;generalize a.data.toList=x;generalize b.data.toList=y;by_cases h:x=y<;>simp[h]
 simp only[B5D,T6,this,C9t]
def elB(o:Option Obj)(sz lo n:Nat):Option (List (List D)):=match o with
 |some (.vec sz' es)=>if sz=sz'∧lo+n≤es.length then some ((es.drop lo).take n)else none
 |_=>none
@[go_sem] theorem C6f(sz' sz lo n:Nat)(es:List (List D)):elB (some (.vec sz' es)) sz lo n=if sz=sz'∧lo+n≤es.length then some ((es.drop lo).take n)else none:=rfl
@[go_sem] theorem C5H(sz sz':Nat)(es:List (List D)):M3 H sz (.sl sz' es)=if sz=sz' then some es else none:=rfl
@[go_sem] theorem C38(sz b sz' lo n:Nat):M3 H sz (.vec b sz' lo n)=if sz=sz' then elB (H b) sz lo n else none:=by
 simp only[M3]
 generalize H b=o
 cases o with
 |none=>rfl
 |some o=>cases o<;>rfl
@[go_sem] theorem C5I(es:List (List D)):A3n es []=some es:=rfl
@[go_sem] theorem C39(es:List (List D))(i:Nat)(d:D)(ps:List (Nat×D)):A3n es ((i,d)::ps)=if i<es.length∧d.cells.length=(es.getD i []).length∧d.cells.all D.one=true then A3n (es.set i d.cells) ps else none:=rfl
def bsC(o:Option (List (List D)))(sz len:Nat)(H:Heap)(KD:D→Heap→Prop):Prop:=match o with
 |some es=>∀b,H b=none→KD (.vec b sz 0 len) (H.set b (.vec sz es))
 |none=>False
@[go_sem] theorem C5J(es:List (List D))(sz len:Nat):bsC (some es) sz len H KD= ∀b,H b=none→KD (.vec b sz 0 len) (H.set b (.vec sz es)):=rfl
def bsB(z:Option (List D))(sz len:Nat)(ps:List (Nat×D))(H:Heap)(KD:D→Heap→Prop):Prop:=match z with
 |some z=>z.length=sz∧bsC (A3n (List.replicate len z) ps) sz len H KD
 |none=>False
@[go_sem] theorem C5K(z:List D)(sz len:Nat)(ps:List (Nat×D)):bsB (some z) sz len ps H KD=(z.length=sz∧bsC (A3n (List.replicate len z) ps) sz len H KD):=rfl
def bsA(P:Program)(et:Option (Nat×Nat×Nat))(len:Nat)(ps:List (Nat×D))(H:Heap)(KD:D→Heap→Prop):Prop:=match et with
 |some (e,sz,_)=>0<sz∧len*sz≤16777216∧bsB (F8 P e) sz len ps H KD
 |none=>False
@[go_sem] theorem C5L(e sz by_ len:Nat)(ps:List (Nat×D)):bsA P (some (e,sz,by_)) len ps H KD=(0<sz∧len*sz≤16777216∧bsB (F8 P e) sz len ps H KD):=rfl
@[go_sem] theorem B8J(t len:Nat)(ps:List (Nat×Operand)):D0 P ev H KD (.buildSlice t len ps.toArray)=bsA P (G2 P t) len (ps.map fun p=>(p.1,ev p.2)) H KD:=by
 show (∃e sz by_ z es,G2 P t=some (e,sz,by_)∧0<sz∧len*sz≤16777216∧F8 P e=some z∧z.length=sz∧A3n (List.replicate len z) (ps.map fun p=>(p.1,ev p.2))=some es∧_)=_
 apply propext
 constructor
 ·rintro⟨e,sz,by_,z,es,h1,h2,h3,h4,h5,h6,h7⟩
  rw[h1]
  refine⟨h2,h3,?_⟩
  rw[h4]
  refine⟨h5,?_⟩
  rw[h6]
  exact h7
 ·intro h
  cases he:G2 P t with
  |none=>rw[he]at h;exact h.elim
  |some e=>
   obtain⟨e,sz,by_⟩:=e
   rw[he]at h
   obtain⟨h2,h3,h⟩:=h
   cases hz:F8 P e with
   |none=>rw[hz]at h;exact h.elim
   |some z=>
    rw[hz]at h
    obtain⟨h5,h⟩:=h
    cases hs:A3n (List.replicate len z) (ps.map fun p=>(p.1,ev p.2))with
    |none=>rw[hs]at h;exact h.elim
    |some es=>rw[hs]at h;exact⟨e,sz,by_,z,es,rfl,h2,h3,hz,h5,hs,h⟩
def apV(o:Option Obj)(b sz n by_:Nat)(xs:List (List D))(H:Heap)(KD:D→Heap→Prop):Prop:=match o with
 |some (.vec sz' es)=>sz=sz'∧n≤es.length∧(n+xs.length)*by_≤140737488355328∧n+xs.length≤9223372036854775807∧∀b',H.del b b'=none→KD (.vec b' sz 0 (n+xs.length)) ((H.del b).set b' (.vec sz (es.take n++xs)))
 |_=>False
@[go_sem] theorem C6g(b sz sz' n by_:Nat)(es xs:List (List D)):apV (some (.vec sz' es)) b sz n by_ xs H KD=(sz=sz'∧n≤es.length∧(n+xs.length)*by_≤140737488355328∧n+xs.length≤9223372036854775807∧∀b',H.del b b'=none→KD (.vec b' sz 0 (n+xs.length)) ((H.del b).set b' (.vec sz (es.take n++xs)))):=rfl
def apW(o:Option Obj)(b sz lo n by_:Nat)(xs:List (List D))(H:Heap)(KD:D→Heap→Prop):Prop:=match o with
 |some (.vec sz' es)=>sz=sz'∧lo+n≤es.length∧(n+xs.length)*by_≤140737488355328∧n+xs.length≤9223372036854775807∧∀b' pre,H.del b b'=none→KD (.vec b' sz pre.length (n+xs.length)) ((H.del b).set b' (.vec sz (pre++((es.drop lo).take n++xs))))
 |_=>False
def apL(lo:Nat)(o:Option Obj)(b sz n by_:Nat)(xs:List (List D))(H:Heap)(KD:D→Heap→Prop):Prop:=(lo=0∧apV o b sz n by_ xs H KD)∨apW o b sz lo n by_ xs H KD
@[go_sem] theorem C8l(o:Option Obj)(b sz n by_:Nat)(xs:List (List D)):apL 0 o b sz n by_ xs H KD=apV o b sz n by_ xs H KD:=by
 refine propext ⟨fun h=>?_,fun h=>.inl ⟨rfl,h⟩⟩
 rcases h with h|h
 ·exact h.2
 ·unfold apW at h
  split at h
  ·obtain⟨h1,h2,h3,h4,h5⟩:=h
   exact⟨h1,by omega,h3,h4,fun b' hb'=>by simpa using h5 b' [] hb'⟩
  ·exact h.elim
def apS(s:D)(sz by_:Nat)(xs:List (List D))(H:Heap)(KD:D→Heap→Prop):Prop:=match s with
 | .nilsl=>xs.length*by_≤140737488355328∧xs.length≤9223372036854775807∧(xs= []→KD .nilsl H)∧(xs≠[]→∀b,H b=none→KD (.vec b sz 0 xs.length) (H.set b (.vec sz xs)))
 | .vec b sz' lo n=>sz'=sz∧apL lo (H b) b sz n by_ xs H KD
 |_=>False
@[go_sem] theorem C6h(sz by_:Nat)(xs:List (List D)):apS .nilsl sz by_ xs H KD=(xs.length*by_≤140737488355328∧xs.length≤9223372036854775807∧(xs= []→KD .nilsl H)∧(xs≠[]→∀b,H b=none→KD (.vec b sz 0 xs.length) (H.set b (.vec sz xs)))):=rfl
@[go_sem] theorem C6i(b sz sz' lo n by_:Nat)(xs:List (List D)):apS (.vec b sz' lo n) sz by_ xs H KD=(sz'=sz∧apL lo (H b) b sz n by_ xs H KD):=rfl
def apX(o:Option (List (List D)))(s:D)(sz by_:Nat)(H:Heap)(KD:D→Heap→Prop):Prop:=match o with
 |some xs=>apS s sz by_ xs H KD
 |none=>False
@[go_sem] theorem C5M(xs:List (List D))(s:D)(sz by_:Nat):apX (some xs) s sz by_ H KD=apS s sz by_ xs H KD:=rfl
def apZ(o:Option (List D))(sz:Nat):Prop:=match o with
 |some z=>z.length=sz
 |none=>False
@[go_sem] theorem C5N(z:List D)(sz:Nat):apZ (some z) sz=(z.length=sz):=rfl
def apT(b:Q0):Prop:=b= .slice∨b= .str
@[go_sem] theorem C4A:apT .slice=True:=by simp[apT]
def apK(P:Program)(et:Option (Nat×Nat×Nat))(bt:Q0)(s x:D)(H:Heap)(KD:D→Heap→Prop):Prop:=match et with
 |some (e,sz,by_)=>0<sz∧apT bt∧apZ (F8 P e) sz∧apX (M3 H sz x) s sz by_ H KD
 |none=>False
@[go_sem] theorem C5O(e sz by_:Nat)(bt:Q0)(s x:D):apK P (some (e,sz,by_)) bt s x H KD=(0<sz∧apT bt∧apZ (F8 P e) sz∧apX (M3 H sz x) s sz by_ H KD):=rfl
@[go_sem] theorem C4B(s x:Operand)(t t':Nat):A04 P ev H KD t t' s x=apK P (G2 P t) (C7 P t') (ev s) (ev x) H KD:=by
 unfold A04
 apply propext
 constructor
 ·rintro⟨e,sz,by_,h1,h2,h3,h4,xs,h5,h6⟩
  rw[h1]
  refine⟨h2,h3,?_,?_⟩
  ·cases hz:F8 P e with
   |none=>rw[hz]at h4;cases h4
   |some z=>rw[hz]at h4;simpa [apZ]using h4
  ·rw[h5]
   show apS _ _ _ _ _ _
   cases hs:ev s<;>rw[hs]at h6<;>try exact h6.elim
   ·exact h6
   ·obtain⟨h7,⟨h8,es,h9,h10⟩|⟨es,h9,h10⟩⟩:=h6
    ·refine⟨h7,.inl ⟨h8,?_⟩⟩
     rw[h9]
     exact⟨rfl,h10⟩
    ·refine⟨h7,.inr ?_⟩
     rw[h9]
     exact⟨rfl,h10⟩
 ·intro h
  cases he:G2 P t with
  |none=>rw[he]at h;exact h.elim
  |some e=>
   obtain⟨e,sz,by_⟩:=e
   rw[he]at h
   obtain⟨h2,h3,h4,h5⟩:=h
   cases hx:M3 H sz (ev x)with
   |none=>rw[hx]at h5;exact h5.elim
   |some xs=>
    rw[hx]at h5
    refine⟨e,sz,by_,rfl,h2,h3,?_,xs,hx,?_⟩
    ·cases hz:F8 P e with
     |none=>rw[hz]at h4;exact h4.elim
     |some z=>rw[hz]at h4;simpa [apZ]using h4
    ·change apS _ _ _ _ _ _ at h5
     cases hs:ev s<;>rw[hs]at h5<;>try exact h5.elim
     ·exact h5
     ·rename_i b sz' lo n
      obtain⟨h7,⟨h8,h9⟩|h9⟩:=h5
      ·refine⟨h7,.inl ⟨h8,?_⟩⟩
       cases ho:H b with
       |none=>rw[ho]at h9;exact h9.elim
       |some o=>
        rw[ho]at h9
        cases o with
        |vec sz2 es=>obtain⟨rfl,h10⟩:=h9;exact⟨es,rfl,h10⟩
        |_=>exact h9.elim
      ·refine⟨h7,.inr ?_⟩
       cases ho:H b with
       |none=>rw[ho]at h9;exact h9.elim
       |some o=>
        rw[ho]at h9
        cases o with
        |vec sz2 es=>obtain⟨rfl,h10⟩:=h9;exact⟨es,rfl,h10⟩
        |_=>exact h9.elim
def msC(z:Option (List D))(sz by_:Nat)(l c:D)(H:Heap)(KD:D→Heap→Prop):Prop:=match z,l,c with
 |some z,.int _ n,.int _ m=>z.length=sz∧0≤n∧n≤m∧by_*m≤281474976710656∧m<9223372036854775808∧∀b,H b=none→KD (.vec b sz 0 n.toNat) (H.set b (.vec sz (List.replicate n.toNat z)))
 |_,_,_=>False
@[go_sem] theorem C6j(z:List D)(sz by_:Nat)(k k':IntKind)(n m:Int):msC (some z) sz by_ (.int k n) (.int k' m) H KD=(z.length=sz∧0≤n∧n≤m∧by_*m≤281474976710656∧m<9223372036854775808∧∀b,H b=none→KD (.vec b sz 0 n.toNat) (H.set b (.vec sz (List.replicate n.toNat z)))):=rfl
def msA(P:Program)(et:Option (Nat×Nat×Nat))(l c:D)(H:Heap)(KD:D→Heap→Prop):Prop:=match et with
 |some (e,sz,by_)=>0<sz∧msC (F8 P e) sz by_ l c H KD
 |none=>False
@[go_sem] theorem C5P(e sz by_:Nat)(l c:D):msA P (some (e,sz,by_)) l c H KD=(0<sz∧msC (F8 P e) sz by_ l c H KD):=rfl
@[go_sem] theorem C0i(t:Nat)(l c:Operand):D0 P ev H KD (.makeSlice t l c)=msA P (G2 P t) (ev l) (ev c) H KD:=by
 simp only[D0]
 apply propext
 constructor
 ·rintro⟨e,sz,by_,z,k,n,k',m,h1,h2,h3,h4,h5,h6,h7⟩
  rw[h1,h5,h6]
  refine⟨h2,?_⟩
  rw[h3]
  exact⟨h4,h7⟩
 ·intro h
  cases he:G2 P t with
  |none=>rw[he]at h;exact h.elim
  |some e=>
   obtain⟨e,sz,by_⟩:=e
   rw[he]at h
   obtain⟨h2,h3⟩:=h
   cases hz:F8 P e with
   |none=>rw[hz]at h3;exact h3.elim
   |some z=>
    rw[hz]at h3
    cases hl:ev l<;>rw[hl]at h3<;>try exact h3.elim
    cases hc:ev c<;>rw[hc]at h3<;>try exact h3.elim
    exact⟨e,sz,by_,z,_,_,_,_,rfl,h2,hz,h3.1,rfl,rfl,h3.2⟩
def A6W(P:Program)(t:Nat):Option IntKind:=match P.underlying t with
 |some (.int k)=>some k
 |_=>none
def B5E(P:Program)(t:Nat):Bool:=match P.underlying t with
 |some (.slice e)=>match P.underlying e with
  |some (.int .u8)=>true
  |_=>false
 |_=>false
def cvI(d:D)(k:Option IntKind)(H:Heap)(KD:D→Heap→Prop):Prop:=match d,k with
 | .int _ n,some k=>KD (.int k (k.wrap n)) H
 |_,_=>False
@[go_sem] theorem C6k(k k':IntKind)(n:Int):cvI (.int k n) (some k') H KD=KD (.int k' (k'.wrap n)) H:=rfl
@[go_sem] theorem C4C(s t:Nat)(x:Operand)(h1:(A6W P s).isSome=true)(h2:(A6W P t).isSome=true):D0 P ev H KD (.convert s t x)=cvI (ev x) (A6W P t) H KD:=by
 unfold A6W at h1 h2
 split at h1
 ·rename_i k1 e1
  split at h2
  ·rename_i k2 e2
   have hc:I5 P (.convert s t x)= .pure:=by simp[I5,e1,e2]
   simp only[D0,hc,J9]
   unfold cvI A6W
   rw[e2]
   cases hx:ev x<;>simp[B14,e1,e2,hx,A9a e1]
  ·cases h2
 ·cases h1
def C5Q(d:D)(H:Heap)(KD:D→Heap→Prop):Prop:=match d with
 | .str z=>∀b,H b=none→KD (.vec b 1 0 z.size) (H.set b (.vec 1 (E5 z)))
 |_=>False
@[go_sem] theorem C5R(z:ByteArray):C5Q (.str z) H KD= ∀b,H b=none→KD (.vec b 1 0 z.size) (H.set b (.vec 1 (E5 z))):=rfl
theorem A6w(s t:Nat)(x:Operand)(h1:C7 P s= .str)(h2:B5E P t=true)(h:C5Q (ev x) H KD):D0 P ev H KD (.convert s t x):=by
 obtain⟨e,hu,he⟩: ∃e,P.underlying t=some (.slice e)∧P.underlying e=some (.int .u8):=by
  unfold B5E at h2
  split at h2
  ·rename_i e hu
   split at h2
   ·rename_i he;exact⟨e,hu,he⟩
   ·cases h2
  ·cases h2
 have hs:P.underlying s=some .string:=by
  unfold C7 at h1
  split at h1<;>simp_all
 have hc:I5 P (.convert s t x)= .eff:=by simp[I5,hs,hu]
 simp only[D0,hc,A21]
 cases hx:ev x<;>rw[hx]at h<;>try exact h.elim
 exact⟨h1,by simp[hu,he],h⟩
def B1F(P:Program)(t:Nat)(x:D)(H:Heap)(KD:D→Heap→Prop):Prop:=match x with
 | .str s=>P.underlying t=some .string∧∀b,H b=none→KD (.box b 0) (H.set b (.iter s 0))
 | .fm kvs=>(A22 P t).isSome=true∧∀b,H b=none→KD (.box b 0) (H.set b (.rng kvs []))
 |_=>False
@[go_sem] theorem C6l(t:Nat)(x:Operand):D0 P ev H KD (.range t x)=B1F P t (ev x) H KD:=by
 unfold B1F;rfl
@[go_sem] theorem C4D(t:Nat)(kvs:List (D×D)):B1F P t (.fm kvs) H KD=((A22 P t).isSome=true∧∀b,H b=none→KD (.box b 0) (H.set b (.rng kvs []))):=rfl
def nxR(kvs:List (D×D))(seen:List Nat)(b:Nat)(H:Heap)(KD:D→Heap→Prop):Prop:=(∀i p,kvs[i]? =some p→i∉seen→KD (.tuple [.bool true,p.1,p.2]) (H.set b (.rng kvs (seen++[i]))))∧((∀i,i<kvs.length→i∈seen)→KD (.tuple [.bool false]) H)
theorem A70{kvs:List (D×D)}{seen:List Nat}{b:Nat}(h1: ∀i (hi:i<kvs.length),i∉seen→KD (.tuple [.bool true,kvs[i].1,kvs[i].2]) (H.set b (.rng kvs (seen++[i]))))(h2:(∀i,i<kvs.length→i∈seen)→KD (.tuple [.bool false]) H):nxR kvs seen b H KD:=
 ⟨fun i p hp hn=>by obtain⟨hi,rfl⟩:=C9Z.1 hp;exact h1 i hi hn,h2⟩
def B2K(o:Option Obj)(b:Nat)(H:Heap)(KD:D→Heap→Prop):Prop:=match o with
 |some (.rng kvs seen)=>nxR kvs seen b H KD
 |_=>False
def B5F(x:D)(H:Heap)(KD:D→Heap→Prop):Prop:=match x with
 | .box b 0=>B2K (H b) b H KD
 |_=>False
@[go_sem] theorem C6n(x:Operand):D0 P ev H KD (.next x false)=B5F (ev x) H KD:=by
 unfold B5F B2K nxR
 simp only[D0]
 cases ev x<;>try rfl
 rename_i b off
 cases off<;>rfl
@[go_sem] theorem C4E(b:Nat):B5F (.box b 0) H KD=B2K (H b) b H KD:=rfl
@[go_sem] theorem C4F(kvs:List (D×D))(seen:List Nat)(b:Nat):B2K (some (.rng kvs seen)) b H KD=nxR kvs seen b H KD:=rfl
def B8L(o:Option (D×D))(H:Heap)(KD:D→Heap→Prop):Prop:=match o with
 |some p=>KD (.tuple [p.1,p.2]) H
 |none=>False
def B5G(o:Option Nat)(kvs:List (D×D))(H:Heap)(KD:D→Heap→Prop):Prop:=match o with
 |some i=>B8L kvs[i]? H KD
 |none=>False
def B8M(o:Option Obj)(H:Heap)(KD:D→Heap→Prop):Prop:=match o with
 |some (.rng kvs seen)=>B5G seen.getLast? kvs H KD
 |_=>False
def C1y(x:D)(H:Heap)(KD:D→Heap→Prop):Prop:=match x with
 | .box b 0=>B8M (H b) H KD
 |_=>False
theorem B8N(o:Option Nat)(kvs:List (D×D)):(∃i p,o=some i∧kvs[i]? =some p∧KD (.tuple [p.1,p.2]) H)=B5G o kvs H KD:=by
 unfold B5G B8L
 cases o with
 |none=>simp
 |some i=>
  cases e:kvs[i]? with
  |none=>simp[e]
  |some p=>exact propext ⟨fun⟨j,q,h1,h2,h3⟩=>by cases h1;rw[e]at h2;cases h2;simp only[e];exact h3,fun h=>⟨i,p,rfl,e,by simp only[e]at h;exact h⟩⟩
@[go_sem] theorem C6o(x:Operand):D0 P ev H KD (.entry x)=C1y (ev x) H KD:=by
 unfold C1y B8M
 simp only[D0,B8N]
 cases ev x<;>try rfl
@[go_sem] theorem C5S(b:Nat):C1y (.box b 0) H KD=B8M (H b) H KD:=rfl
@[go_sem] theorem C5T(kvs:List (D×D))(seen:List Nat):B8M (some (.rng kvs seen)) H KD=B5G seen.getLast? kvs H KD:=rfl
@[go_sem] theorem C4G(i:Nat)(kvs:List (D×D)):B5G (some i) kvs H KD=B8L kvs[i]? H KD:=rfl
@[go_sem] theorem C4H(p:D×D):B8L (some p) H KD=KD (.tuple [p.1,p.2]) H:=rfl
variable {t:Nat}
@[go_sem] theorem A5(b:Nat)(o:Obj):(H.set b o) b=some o:=by simp[Heap.set]
theorem A6{b k:Nat}(o:Obj)(h:k≠b):(H.set b o) k=H k:=by simp[Heap.set,h]
@[go_sem] theorem B8O(b:Nat)(o o':Obj):(H.set b o).set b o'=H.set b o':=by
 funext k;unfold Heap.set;split<;>rfl
theorem B4{b:Nat}{o:Obj}(h:H b=some o):(H.set b o).Le H:=fun k x hx=>by
 unfold Heap.set at hx
 split at hx
 ·rename_i e;rw[e,h];exact hx
 ·exact hx
theorem A4{b k:Nat}{o:Obj}:(H.set b o) k=none↔k≠b∧H k=none:=by unfold Heap.set;by_cases h:k=b<;>simp[h]
theorem C8{b k:Nat}(h:k≠b):(H.del b) k=H k:=by simp[Heap.del,h]
theorem A2{b:Nat}{o:Obj}(h:H b=none):H.Le (H.set b o):=fun k x hx=>by
 rw[A6 o (by rintro rfl;rw[h]at hx;cases hx)];exact hx
theorem A8{b k:Nat}(o:Obj)(h:k≠b):(H.set b o) k=H k:=by simp[Heap.set,h]
def B5H:Option (Bool×Nat)→Option (List D)→Option D
 |some s,some cs=>q8 s cs
 |_,_=>none
@[go_sem] theorem C5U(a:D):s8 P t a H=B5H (F2 P t) (A3m H a):=by
 unfold s8 B5H
 cases F2 P t<;>simp
 cases A3m H a<;>rfl
@[go_sem] theorem C1z(s:Bool×Nat)(cs:List D):B5H (some s) (some cs)=q8 s cs:=rfl
def C5V:Option Obj→Nat→Option (List D)
 |some (.box cs _),off=>some (cs.drop off)
 |_,_=>none
def C5W:Option Obj→Nat→Nat→Nat→Option (List D)
 |some (.vec sz' es),sz,i,off=>if sz=sz' then(es[i]?).map (·.drop off)else none
 |_,_,_,_=>none
@[go_sem] theorem C6p(b off:Nat):A3m H (.box b off)=C5V (H b) off:=by
 simp only[A3m]
 generalize H b=o
 cases o with
 |none=>rfl
 |some o=>cases o<;>rfl
@[go_sem] theorem C7g(b sz i off:Nat):A3m H (.el b sz i off)=C5W (H b) sz i off:=by
 simp only[A3m]
 generalize H b=o
 cases o with
 |none=>rfl
 |some o=>cases o<;>rfl
@[go_sem] theorem C7h(cs:List D):A3m H (.ro cs)=some cs:=rfl
@[go_sem] theorem C5X(cs:List D)(Z:Option TypeId)(off:Nat):C5V (some (.box cs Z)) off=some (cs.drop off):=rfl
@[go_sem] theorem C5Y(sz sz' i off:Nat)(es:List (List D)):C5W (some (.vec sz' es)) sz i off=if sz=sz' then(es[i]?).map (·.drop off)else none:=rfl
@[go_sem] theorem C5Z(n:Nat)(cs:List D):q8 (false,n) cs=cs.head?:=rfl
@[go_sem] theorem C5a(n:Nat)(cs:List D):q8 (true,n) cs=if n≤cs.length then some (.agg (cs.take n))else none:=rfl
def A3z:Option (Bool×Nat)→Option Obj→Nat→Nat→List D→Heap→Option Heap
 |some (_,n),some (.box cs Z),b,off,xs,H=>if n=xs.length∧xs.all D.one=true∧off+xs.length≤cs.length then some (H.set b (.box (O7 cs off xs) Z))else none
 |_,_,_,_,_,_=>none
def u8:Option (Bool×Nat)→Option Obj→Nat→Nat→Nat→Nat→List D→Heap→Option Heap
 |some (_,n),some (.vec sz' es),b,sz,i,off,xs,H=>if n=xs.length∧xs.all D.one=true∧sz=sz'∧i<es.length∧off+xs.length≤sz then some (H.set b (.vec sz (es.set i (O7 (es.getD i []) off xs))))else none
 |_,_,_,_,_,_,_,_=>none
@[go_sem] theorem C4I(b off:Nat)(x:D):X2 P t (.box b off) x H=A3z (F2 P t) (H b) b off x.cells H:=by
 unfold X2
 cases hs:F2 P t with
 |none=>simp[A3z]
 |some s=>
  obtain⟨bb,n⟩:=s
  cases hb:H b with
  |none=>simp[A3z,hb]
  |some o=>cases o with
   |box cs=>
    simp only[Option.map_some,C91,A3z,hb]
    by_cases h1:n=x.cells.length<;>by_cases h2:x.cells.all D.one=true<;>by_cases h3:off+x.cells.length≤cs.length<;>simp only[h1,h2,h3]<;>simp
   |_=>simp[A3z,hb]
@[go_sem] theorem C5b(b sz i off:Nat)(x:D):X2 P t (.el b sz i off) x H=u8 (F2 P t) (H b) b sz i off x.cells H:=by
 unfold X2
 cases hs:F2 P t with
 |none=>simp[u8]
 |some s=>
  obtain⟨bb,n⟩:=s
  cases hb:H b with
  |none=>simp[u8,hb]
  |some o=>cases o with
   |box cs=>simp[u8,hb]
   |ro cs=>simp[u8,hb]
   |iter=>simp[u8,hb]
   |map=>simp[u8,hb]
   |rng=>simp[u8,hb]
   |buf=>simp[u8,hb]
   |vec sz' es=>
    simp only[Option.map_some,C91,u8,hb]
    by_cases h1:n=x.cells.length<;>by_cases h2:x.cells.all D.one=true<;>simp only[h1,h2]<;>simp
@[go_sem] theorem C10(bb:Bool)(n b off:Nat)(cs xs:List D)(Z:Option TypeId):A3z (some (bb,n)) (some (.box cs Z)) b off xs H=if n=xs.length∧xs.all D.one=true∧off+xs.length≤cs.length then some (H.set b (.box (O7 cs off xs) Z))else none:=rfl
@[go_sem] theorem C11(bb:Bool)(n b sz sz' i off:Nat)(es:List (List D))(xs:List D):u8 (some (bb,n)) (some (.vec sz' es)) b sz i off xs H=if n=xs.length∧xs.all D.one=true∧sz=sz'∧i<es.length∧off+xs.length≤sz then some (H.set b (.vec sz (es.set i (O7 (es.getD i []) off xs))))else none:=rfl
@[go_sem] theorem C4J(cs:List D)(i:Nat):O7 cs i []=cs:=by cases cs<;>rfl
@[go_sem] theorem C12(cs xs:List D)(i:Nat)(x:D):O7 cs i (x::xs)=O7 (cs.set i x) (i+1) xs:=by cases cs<;>rfl
@[go_sem] theorem C4K(cs:List D):(D.agg cs).cells=cs:=rfl
@[go_sem] theorem C4L(k:IntKind)(n:Int):(D.int k n).cells= [.int k n]:=rfl
@[go_sem] theorem C13(b:Bool):(D.bool b).cells= [.bool b]:=rfl
@[go_sem] theorem C4M(s:ByteArray):(D.str s).cells= [.str s]:=rfl
@[go_sem] theorem C0j:D.nilsl.cells= [.nilsl]:=rfl
@[go_sem] theorem C5c(sz:Nat)(es:List (List D)):(D.sl sz es).cells= [.sl sz es]:=rfl
@[go_sem] theorem C4N(b sz lo n:Nat):(D.vec b sz lo n).cells= [.vec b sz lo n]:=rfl
@[go_sem] theorem C4O(b:Nat):(D.map b).cells= [.map b]:=rfl
attribute [go_sem] D.one
def v8(e:Option (Nat×Nat×Nat))(sz:Nat)(o:Option D):Option D:=match e with
 |some (_,sz',_)=>if sz'=sz then o else none
 |none=>none
@[go_sem] theorem C0k(e sz' by_ sz:Nat)(o:Option D):v8 (some (e,sz',by_)) sz o=if sz'=sz then o else none:=rfl
def A2j(x:D):Option (Nat×Nat)→Option D
 |none=>none
 |some (l,h)=>match x with
  | .str s=>some (.str (s.extract l h))
  | .nilsl=>some .nilsl
  | .sl sz es=>some (.sl sz ((es.take h).drop l))
  | .vec b sz lo _=>some (if l=0 then .vec b sz lo h else .vec b sz (lo+l) (h-l))
  |_=>none
def X6(x:D)(b:Option (Nat×Nat)):Option D:=A2j x b
theorem A4T(x:D)(c:Prop) [Decidable c] (b:Option (Nat×Nat)):X6 x (if c then b else none)=if c then X6 x b else none:=by split<;>rfl
theorem C14(n:Nat)(k:IntKind)(l:Int):boundsD n (some (.int k l)) none=if 0≤l∧l≤n then some (l.toNat,n)else none:=rfl
theorem C15(n:Nat)(k:IntKind)(h:Int):boundsD n none (some (.int k h))=if 0≤h∧h≤n then some (0,h.toNat)else none:=rfl
theorem A6x(s:ByteArray)(lo hi:Option D):T8 P t (.str s) lo hi=if C7 P t= .str then X6 (.str s) (boundsD s.size lo hi)else none:=by
 simp only[T8,X6]
 generalize boundsD s.size lo hi=o
 cases o<;>rfl
def B5I(b:Q0)(o:Option D):Option D:=if b= .str then o else none
@[go_sem] theorem C5d(o:Option D):B5I .str o=o:=rfl
@[go_sem] theorem B8P(s:ByteArray)(k:IntKind)(l:Int):T8 P t (.str s) (some (.int k l)) none=B5I (C7 P t) (if 0≤l∧l≤s.size then some (.str (S ((B s).drop l.toNat)))else none):=by
 rw[A6x];unfold B5I
 have:s.extract l.toNat s.size=S ((B s).drop l.toNat):=by rw[A6v,←Y7,List.take_length]
 rw[C14,A4T]
 split
 ·split
  ·show some (D.str (s.extract l.toNat s.size))=_
   rw[this]
  ·rfl
 ·rfl
@[go_sem] theorem B8Q(s:ByteArray)(k:IntKind)(h:Int):T8 P t (.str s) none (some (.int k h))=B5I (C7 P t) (if 0≤h∧h≤s.size then some (.str (S ((B s).take h.toNat)))else none):=by
 rw[A6x];unfold B5I
 have:s.extract 0 h.toNat=S ((B s).take h.toNat):=by rw[A6v,List.drop_zero]
 rw[C15,A4T]
 split
 ·split
  ·show some (D.str (s.extract 0 h.toNat))=_
   rw[this]
  ·rfl
 ·rfl
@[go_sem] theorem C4P(lo hi:Option D):T8 P t .nilsl lo hi=if(G2 P t).isSome then X6 .nilsl (boundsD 0 lo hi)else none:=by
 simp only[T8,X6]
 generalize boundsD 0 lo hi=o
 cases o<;>rfl
@[go_sem] theorem C5e(sz:Nat)(es:List (List D))(lo hi:Option D):T8 P t (.sl sz es) lo hi=v8 (G2 P t) sz (X6 (.sl sz es) (boundsD es.length lo hi)):=by
 simp only[T8,X6]
 generalize boundsD es.length lo hi=o
 cases G2 P t with
 |none=>simp[v8]
 |some e=>cases o<;>simp[A2j,v8]
@[go_sem] theorem C4Q(b sz l n:Nat)(lo hi:Option D):T8 P t (.vec b sz l n) lo hi=v8 (G2 P t) sz (X6 (.vec b sz l n) (boundsD n lo hi)):=by
 simp only[T8,X6]
 generalize boundsD n lo hi=o
 cases G2 P t with
 |none=>simp[v8]
 |some e=>cases o<;>simp[A2j,v8]
@[go_sem] theorem C0l(x:D)(l h:Nat):X6 x (some (l,h))=A2j x (some (l,h)):=rfl
@[go_sem] theorem C16(x:D)(c:Prop) [Decidable c] (b:Option (Nat×Nat)):X6 x (if c then b else none)=if c then X6 x b else none:=by split<;>rfl
@[go_sem] theorem C17(l h:Nat):A2j .nilsl (some (l,h))=some .nilsl:=rfl
@[go_sem] theorem C4R(sz l h:Nat)(es:List (List D)):A2j (.sl sz es) (some (l,h))=some (.sl sz ((es.take h).drop l)):=rfl
@[go_sem] theorem C18(b sz lo n l h:Nat):A2j (.vec b sz lo n) (some (l,h))=some (if l=0 then .vec b sz lo h else .vec b sz (lo+l) (h-l)):=rfl
@[go_sem] theorem C8o(n:Nat)(k:IntKind)(l:Int):boundsD n (some (.int k l)) none=if 0≤l∧l≤n then some (l.toNat,n)else none:=rfl
@[go_sem] theorem C8p(n:Nat)(k:IntKind)(h:Int):boundsD n none (some (.int k h))=if 0≤h∧h≤n then some (0,h.toNat)else none:=rfl
@[go_sem] theorem C6q(s:ByteArray):A5G P t (.str s)=if C7 P t= .str then some (.int .i64 s.size)else none:=rfl
@[go_sem] theorem C6r:A5G P t .nilsl=if C7 P t= .slice then some (.int .i64 0)else none:=rfl
@[go_sem] theorem C7i(sz:Nat)(es:List (List D)):A5G P t (.sl sz es)=if C7 P t= .slice then some (.int .i64 es.length)else none:=rfl
@[go_sem] theorem C6s(b sz lo n:Nat):A5G P t (.vec b sz lo n)=if C7 P t= .slice then some (.int .i64 n)else none:=rfl
@[go_sem] theorem C7j(s:ByteArray)(k:IntKind)(n:Int):A5H P t (.str s) (.int k n)=if C7 P t= .str∧0≤n∧n<s.size then some (.int .u8 (W4 s n))else none:=rfl
@[go_sem] theorem C8q(sz:Nat)(es:List (List D))(k:IntKind)(n:Int):P4 P t (.sl sz es) (.int k n)=v8 (G2 P t) sz (if 0≤n∧n<es.length then some (.ro (es.getD n.toNat []))else none):=by
 unfold P4 v8
 cases G2 P t with
 |none=>simp
 |some e=>obtain⟨a,b,c⟩:=e;by_cases h:b=sz<;>simp[h]
@[go_sem] theorem C7k(b sz l m:Nat)(k:IntKind)(n:Int):P4 P t (.vec b sz l m) (.int k n)=v8 (G2 P t) sz (if 0≤n∧n<m then some (.el b sz (l+n.toNat) 0)else none):=by
 unfold P4 v8
 cases G2 P t with
 |none=>simp
 |some e=>obtain⟨a,b',c⟩:=e;by_cases h:b'=sz<;>simp[h]
def A5g(f:Option (Nat×Bool×Nat))(x:D):Option D:=match f with
 |some (o,_,n)=>if n=0 then none else match x with
  | .box b off=>some (.box b (off+o))
  | .el b sz i off=>some (.el b sz i (off+o))
  | .ro cs=>some (.ro (cs.drop o))
  |_=>none
 |none=>none
def A71(l:Option (List (Nat×Bool×Nat)))(f:Nat):Option (Nat×Bool×Nat):=match l with
 |some l=>l[f]?
 |none=>none
@[go_sem] theorem B8R(l:List (Nat×Bool×Nat))(f:Nat):A71 (some l) f=l[f]? :=rfl
@[go_sem] theorem C7l(x:D)(f:Nat):W9 P t x f=A5g (A71 (K6 P t) f) x:=by
 unfold W9 A5g A71
 cases K6 P t<;>rfl
@[go_sem] theorem C19(o n b off:Nat)(bb:Bool):A5g (some (o,bb,n)) (.box b off)=if n=0 then none else some (.box b (off+o)):=rfl
@[go_sem] theorem C4S(o n b sz i off:Nat)(bb:Bool):A5g (some (o,bb,n)) (.el b sz i off)=if n=0 then none else some (.el b sz i (off+o)):=rfl
@[go_sem] theorem C4T(o n:Nat)(bb:Bool)(cs:List D):A5g (some (o,bb,n)) (.ro cs)=if n=0 then none else some (.ro (cs.drop o)):=rfl
@[go_sem] theorem C5f(rs:List ResultVar)(Q:D→Heap→Prop):A9X P rs Q .ret E H=B8F (A2h P rs E H) Q H:=rfl
@[go_sem] theorem C0m(rs:List ResultVar)(Q:D→Heap→Prop):A9X P rs Q .normal E H=B8F (A2h P rs E H) Q H:=rfl
@[go_sem] theorem C4U(d:D)(Q:D→Heap→Prop):B8F (some d) Q H=Fin Q d H:=by simp[B8F]
@[go_sem] theorem C4V:A2h P [] E H=some (.tuple []):=rfl
@[go_sem] theorem C5g(t:Nat):A2h P [.tmp t] E H=some (E.get t):=rfl
def B1G(P:Program)(rs:List ResultVar)(E:Env)(H:Heap):Option (List D):=rs.mapM (A0I P E H)
def C0n:Option D→Option (List D)→Option (List D)
 |some d,some l=>some (d::l)
 |_,_=>none
@[go_sem] theorem C2A(d:D)(l:List D):C0n (some d) (some l)=some (d::l):=rfl
@[go_sem] theorem C5h:B1G P [] E H=some []:=rfl
@[go_sem] theorem A6y(r:ResultVar)(rs:List ResultVar):B1G P (r::rs) E H=C0n (A0I P E H r) (B1G P rs E H):=by
 simp only[B1G,List.mapM_cons,Option.bind_eq_bind,Option.pure_def]
 cases A0I P E H r<;>cases List.mapM (A0I P E H) rs<;>rfl
@[go_sem] theorem C4W(r r':ResultVar)(rs:List ResultVar):A2h P (r::r'::rs) E H=(B1G P (r::r'::rs) E H).map .tuple:=by
 unfold A2h
 show Option.map _ (B1G P (r::r'::rs) E H)=_
 rw[A6y,A6y]
 cases A0I P E H r<;>cases A0I P E H r'<;>cases B1G P rs E H<;>rfl
@[go_sem] theorem C4X(t:Nat):A0I P E H (.tmp t)=some (E.get t):=rfl
@[go_sem] theorem C2B(a t:Nat):A0I P E H (.cell a t)=s8 P t (E.get a) H:=rfl
@[go_sem] theorem C4Y(a t:Nat):A2h P [.cell a t] E H=s8 P t (E.get a) H:=by
 simp[A2h,A0I,List.mapM_cons]
 cases s8 P t (E.get a) H<;>rfl
end
theorem A0{x:Int}(h1: -9223372036854775808≤x)(h2:x≤9223372036854775807):IntKind.i64.wrap x=x:=IntWalk.i64_in _ (by omega)
def Sub:Env→Env→Prop
 | [],_=>True
 |(i,d)::r,E=>E.get i=d∧Sub r E
def Nx{ι :Type}(Ei: ι →Env)(Hi: ι →Heap)(Inv: ι →Prop)(μ : ι →Nat)(x: ι):Env→Heap→Prop:=fun E' H'=>∃y,Inv y∧ μ y< μ x∧A1C (Ei y) (Hi y) E' H'
theorem Sub.all: ∀{E0 E:Env},Sub E0 E→∀p∈E0,E.get p.1=p.2
 | [],_,_,_,hp=>by simp at hp
 |(i,d)::r,E,h,p,hp=>by
  rcases C9r.1 hp with rfl|hp
  ·exact h.1
  ·exact Sub.all h.2 p hp
theorem C2C{P:Program}{Z:List (Nat×Rc)}{c:Code}{Q:AX→Env→Heap→Prop}{E:Env}{H:Heap}{ι :Type}(Ei: ι →Env)(Hi: ι →Heap)(Inv: ι →Prop)(μ : ι →Nat)(x0: ι)(h0:Inv x0)(hw:A1C (Ei x0) (Hi x0) E H)
  (step: ∀x,Inv x→wp P Z c (A5d Q (Nx Ei Hi Inv μ x)) (Ei x) (Hi x)):B41 P Z c Q E H:=by
 refine⟨fun n E H=>∃x,Inv x∧ μ x=n∧E=Ei x∧H=Hi x,⟨μ x0,Ei x0,Hi x0,hw,x0,h0,rfl,rfl,rfl⟩,?_⟩
 rintro n E1 H1 ⟨x,hx,rfl,rfl,rfl⟩
 have hmono:(fun E' H'=>∃m E0 H0,m< μ x∧A1C E0 H0 E' H'∧∃x,Inv x∧ μ x=m∧E0=Ei x∧H0=Hi x)=Nx Ei Hi Inv μ x:=by
  funext E' H'
  apply propext
  constructor
  ·rintro⟨m,E0,H0,hm,hw,y,hy,rfl,rfl,rfl⟩
   exact⟨y,hy,hm,hw⟩
  ·rintro⟨y,hy,hm,hs⟩
   exact⟨μ y,Ei y,Hi y,hm,hs,y,hy,rfl,rfl,rfl⟩
 have:=step x hx
 rw[hmono]
 exact this
theorem C2D{P:Program}{Z:List (Nat×Rc)}{c:Code}{Q:AX→Env→Heap→Prop}{E:Env}{H:Heap}{ι :Type}(Ei: ι →Env)(Hi: ι →Heap)(Inv: ι →Prop)(μ : ι →Nat)(x0: ι)(h0:Inv x0)(hE:Sub (Ei x0) E)(hH:(Hi x0).Le H)
  (step: ∀x,Inv x→wp P Z c (A5d Q (Nx Ei Hi Inv μ x)) (Ei x) (Hi x)):B41 P Z c Q E H:=C2C Ei Hi Inv μ x0 h0 (A7v hE.all hH) step
attribute [go_sem] Sub
theorem w9{P:Program}{K:Env→Heap→Prop}{E:Env}{H:Heap}{gs:List (Option Nat)}{ops:List Oper}(E0:Env)(H0:Heap)(hE:Sub E0 E)(hH:H0.Le H)(h:wpOps P gs K ops E0 H0):A4S P gs ops K E H (some .wk):=⟨E0,H0,A7v hE.all hH,h⟩
theorem A2C{C T G:Prop}(h:(C→T)→G)(t:C→T):G:=h t
def A2k(E:Env):List Nat→Env
 | []=>[]
 |t::ts=>(t,E.get t)::A2k E ts
def cat:Env→Env→Env
 | [],F=>F
 |p::E,F=>p::cat E F
@[go_sem] theorem C2E(E:Env):A2k E []= []:=rfl
@[go_sem] theorem C0p(E:Env)(t:Nat)(ts:List Nat):A2k E (t::ts)=(t,E.get t)::A2k E ts:=rfl
@[go_sem] theorem C6t(F:Env):cat [] F=F:=rfl
@[go_sem] theorem C5i(p:Nat×D)(E F:Env):cat (p::E) F=p::cat E F:=rfl
theorem B2L: ∀{A B E:Env},Sub A E→Sub B E→Sub (cat A B) E
 | [],_,_,_,h=>h
 |_::_,_,_,h1,h2=>⟨h1.1,B2L h1.2 h2⟩
theorem A5h(E:Env): ∀ts,Sub (A2k E ts) E
 | []=>trivial
 |_::ts=>⟨rfl,A5h E ts⟩
theorem D1{P:Program}{Z:List (Nat×Rc)}{c:Code}{Q:AX→Env→Heap→Prop}{E:Env}{H:Heap}{ι :Type}(ts:List Nat)(Ei: ι →Env)(Hi: ι →Heap)(Inv: ι →Prop)(μ : ι →Nat)(x0: ι)(h0:Inv x0)(hE:Sub (Ei x0) E)(hH:(Hi x0).Le H)
  (step: ∀Ec,Ec=A2k E ts→∀x,Inv x→wp P Z c (A5d Q (Nx (fun x=>cat Ec (Ei x)) Hi Inv μ x)) (cat Ec (Ei x)) (Hi x)):B41 P Z c Q E H:=C2D (fun x=>cat (A2k E ts) (Ei x)) Hi Inv μ x0 h0 (B2L (A5h E ts) hE) hH (step _ rfl)
theorem C3{ι :Type}{Ei: ι →Env}{Hi: ι →Heap}{Inv: ι →Prop}{μ : ι →Nat}{x: ι}{E':Env}{H':Heap}(y: ι)(h1:Inv y)(h2: μ y< μ x)(h3:Sub (Ei y) E')(h4:(Hi y).Le H'):Nx Ei Hi Inv μ x E' H':=⟨y,h1,h2,A7v h3.all h4⟩
theorem B5J{ι :Type}{Ei: ι →Env}{Hi: ι →Heap}{Inv: ι →Prop}{μ : ι →Nat}{x: ι}{E':Env}{H':Heap}(y: ι)(h1:Inv y)(h2: μ y< μ x)(h3:A1C (Ei y) (Hi y) E' H'):Nx Ei Hi Inv μ x E' H':=⟨y,h1,h2,h3⟩
def nth(l:List UInt8)(k:Nat):Int:=((l.getD k 0).toNat:Int)
@[go_sem] theorem C8r(l:List UInt8)(i:Int):W4 (S l) i=nth l i.toNat:=by
 show (((S l).data.toList.getD i.toNat 0).toNat:Int)=_
 rw[show (S l).data.toList=l from l9 l];rfl
theorem B5K(s:ByteArray):W4 s 0=nth (B s) 0:=rfl
attribute [irreducible] Fin B41 Nx
attribute [go_sem] X5 D0g List.map_nil Option.map_some Option.map_none D0b D0E D0a D0n D0o Bool.not_eq_true' Bool.not_eq_false' C9l decide_eq_false_iff_not true_and and_true List.drop_succ_cons List.drop_zero List.head?_cons List.take_succ_cons List.take_zero C9U C9W List.set_cons_zero List.set_cons_succ D0S List.all_nil Bool.and_true Bool.true_and List.getElem?_cons_zero C9v Nat.zero_add Nat.add_zero Int.toNat_natCast forall_const implies_true Option.isSome_some ne_eq not_true_eq_false not_false_eq_true C9j beq_iff_eq bne_iff_ne beq_eq_false_iff_ne Nat.le_add_left Nat.not_lt_zero beq_self_eq_true if_true if_false C9x C97 Int.toNat_natCast_add_one Option.map_map List.size_toArray C9q false_imp_iff true_imp_iff C9V D0P C98 decide_true decide_false List.replicate_succ List.replicate_zero C9y C9z List.append_eq Nat.min_self
end Go.Av
end
section
namespace Go.Proofs
open Go.Av
@[go_sem] theorem C4l:A6W Tryz.prog 2=some .i64:=by kernel_rfl
@[go_sem] theorem C3U:C7 Tryz.prog 3= .int:=by kernel_rfl
@[go_sem] theorem C1N:F2 Tryz.prog 3=some (false,1):=by kernel_rfl
@[go_sem] theorem C4m:A6W Tryz.prog 3=some .i64:=by kernel_rfl
@[go_sem] theorem C3e:F8 Tryz.prog 3=some [.int .i64 0]:=by kernel_rfl
@[go_sem] theorem C4i:A1V Tryz.prog 3=none:=by kernel_rfl
@[go_sem] theorem C3V:C7 Tryz.prog 4= .bool:=by kernel_rfl
@[go_sem] theorem C1O:F2 Tryz.prog 4=some (false,1):=by kernel_rfl
@[go_sem] theorem C3f:F8 Tryz.prog 4=some [.bool false]:=by kernel_rfl
@[go_sem] theorem C3h:Go.Av.A5K Tryz.prog 4=some (.bool false):=by kernel_rfl
@[go_sem] theorem C4j:A1V Tryz.prog 4=none:=by kernel_rfl
@[go_sem] theorem C1P:F2 Tryz.prog 5=some (false,1):=by kernel_rfl
@[go_sem] theorem C3W:C7 Tryz.prog 9= .str:=by kernel_rfl
@[go_sem] theorem C1Q:F2 Tryz.prog 9=some (false,1):=by kernel_rfl
@[go_sem] theorem C3g:F8 Tryz.prog 9=some [.str ⟨#[]⟩]:=by kernel_rfl
@[go_sem] theorem C0G:F2 Tryz.prog 22=some (false,1):=by kernel_rfl
@[go_sem] theorem C00:C7 Tryz.prog 23= .slice:=by kernel_rfl
@[go_sem] theorem C0H:F2 Tryz.prog 23=some (false,1):=by kernel_rfl
@[go_sem] theorem C1E:G2 Tryz.prog 23=some (114,2,24):=by kernel_rfl
@[go_sem] theorem C01:C7 Tryz.prog 25= .struct:=by kernel_rfl
@[go_sem] theorem C0I:F2 Tryz.prog 25=some (true,3):=by kernel_rfl
@[go_sem] theorem B7r:K6 Tryz.prog 25=some [(0,false,1),(1,false,1),(2,false,1)]:=by kernel_rfl
@[go_sem] theorem C1R:F8 Tryz.prog 25=some [.nilsl,.int .i64 0,.bool false]:=by kernel_rfl
@[go_sem] theorem C3X:A1V Tryz.prog 25=none:=by kernel_rfl
@[go_sem] theorem C02:C7 Tryz.prog 26= .slice:=by kernel_rfl
@[go_sem] theorem C0J:F2 Tryz.prog 26=some (false,1):=by kernel_rfl
@[go_sem] theorem C1F:G2 Tryz.prog 26=some (28,7,96):=by kernel_rfl
@[go_sem] theorem C1S:F8 Tryz.prog 26=some [.nilsl]:=by kernel_rfl
@[go_sem] theorem C03:C7 Tryz.prog 28= .struct:=by kernel_rfl
@[go_sem] theorem C0K:F2 Tryz.prog 28=some (true,7):=by kernel_rfl
@[go_sem] theorem B7s:K6 Tryz.prog 28=some [(0,false,1),(1,false,1),(2,true,3),(5,false,1),(6,false,1)]:=by kernel_rfl
@[go_sem] theorem C1T:F8 Tryz.prog 28=some [.int .i64 0,.int .i64 0,.nilsl,.int .i64 0,.bool false,.str ⟨#[]⟩,.nilsl]:=by kernel_rfl
@[go_sem] theorem C3Y:A1V Tryz.prog 28=none:=by kernel_rfl
@[go_sem] theorem C04:C7 Tryz.prog 31= .slice:=by kernel_rfl
@[go_sem] theorem C0L:F2 Tryz.prog 31=some (false,1):=by kernel_rfl
@[go_sem] theorem C1G:G2 Tryz.prog 31=some (9,1,16):=by kernel_rfl
@[go_sem] theorem C05:C7 Tryz.prog 40= .slice:=by kernel_rfl
@[go_sem] theorem C0M:F2 Tryz.prog 40=some (false,1):=by kernel_rfl
@[go_sem] theorem C1H:G2 Tryz.prog 40=some (71,2,24):=by kernel_rfl
@[go_sem] theorem C06:C7 Tryz.prog 71= .struct:=by kernel_rfl
@[go_sem] theorem C0N:F2 Tryz.prog 71=some (true,2):=by kernel_rfl
@[go_sem] theorem B7t:K6 Tryz.prog 71=some [(0,false,1),(1,false,1)]:=by kernel_rfl
@[go_sem] theorem C4k:A02 Tryz.prog 71=some [(0,.str),(1,.int)]:=by kernel_rfl
@[go_sem] theorem C1U:F8 Tryz.prog 71=some [.str ⟨#[]⟩,.int .i64 0]:=by kernel_rfl
@[go_sem] theorem C3Z:A1V Tryz.prog 71=none:=by kernel_rfl
@[go_sem] theorem C07:C7 Tryz.prog 72= .map:=by kernel_rfl
@[go_sem] theorem C0O:F2 Tryz.prog 72=some (false,1):=by kernel_rfl
@[go_sem] theorem C1V:F8 Tryz.prog 72=some [.nilmap]:=by kernel_rfl
@[go_sem] theorem C3d:A22 Tryz.prog 72=some (9,4,.one .str):=by kernel_rfl
@[go_sem] theorem C3a:A1V Tryz.prog 72=none:=by kernel_rfl
@[go_sem] theorem C08:C7 Tryz.prog 91= .slice:=by kernel_rfl
@[go_sem] theorem C1I:G2 Tryz.prog 91=some (72,1,8):=by kernel_rfl
@[go_sem] theorem C09:C7 Tryz.prog 95= .slice:=by kernel_rfl
@[go_sem] theorem C1J:G2 Tryz.prog 95=some (5,1,1):=by kernel_rfl
@[go_sem] theorem C1W:F8 Tryz.prog 97=some [.nilp,.nilsl]:=by kernel_rfl
@[go_sem] theorem C3b:A1V Tryz.prog 97=some 97:=by kernel_rfl
@[go_sem] theorem B9v:C7 Tryz.prog 103= .struct:=by kernel_rfl
@[go_sem] theorem B7g:K6 Tryz.prog 103=some [(0,false,1),(1,false,1)]:=by kernel_rfl
@[go_sem] theorem C0P:F8 Tryz.prog 103=some [.str ⟨#[]⟩,.bool false]:=by kernel_rfl
@[go_sem] theorem B9w:C7 Tryz.prog 110= .slice:=by kernel_rfl
@[go_sem] theorem B7u:F2 Tryz.prog 110=some (false,1):=by kernel_rfl
@[go_sem] theorem B98:G2 Tryz.prog 110=some (25,3,40):=by kernel_rfl
@[go_sem] theorem C0Q:F8 Tryz.prog 110=some [.nilsl]:=by kernel_rfl
@[go_sem] theorem B9x:C7 Tryz.prog 114= .struct:=by kernel_rfl
@[go_sem] theorem B7v:F2 Tryz.prog 114=some (true,2):=by kernel_rfl
@[go_sem] theorem B7h:K6 Tryz.prog 114=some [(0,false,1),(1,false,1)]:=by kernel_rfl
@[go_sem] theorem C3c:A02 Tryz.prog 114=some [(0,.str),(1,.int)]:=by kernel_rfl
@[go_sem] theorem C0R:F8 Tryz.prog 114=some [.str ⟨#[]⟩,.int .i64 0]:=by kernel_rfl
@[go_sem] theorem C1A:A1V Tryz.prog 114=none:=by kernel_rfl
@[go_sem] theorem B9y:C7 Tryz.prog 150= .struct:=by kernel_rfl
@[go_sem] theorem B7w:F2 Tryz.prog 150=some (true,2):=by kernel_rfl
@[go_sem] theorem B7i:K6 Tryz.prog 150=some [(0,false,1),(1,false,1)]:=by kernel_rfl
@[go_sem] theorem C0S:F8 Tryz.prog 150=some [.nilsl,.nilmap]:=by kernel_rfl
@[go_sem] theorem C1B:A1V Tryz.prog 150=none:=by kernel_rfl
@[go_sem] theorem C1K:A6W Tryz.prog 163=some .u64:=by kernel_rfl
@[go_sem] theorem B7x:F2 Tryz.prog 194=some (false,1):=by kernel_rfl
@[go_sem] theorem C1L:A6W Tryz.prog 194=some .u32:=by kernel_rfl
@[go_sem] theorem C0T:F8 Tryz.prog 194=some [.int .u32 0]:=by kernel_rfl
@[go_sem] theorem C1M:A6W Tryz.prog 196=some .u64:=by kernel_rfl
@[go_sem] theorem B9z:C7 Tryz.prog 208= .slice:=by kernel_rfl
@[go_sem] theorem B99:G2 Tryz.prog 208=some (110,1,24):=by kernel_rfl
@[go_sem] theorem B90:C7 Tryz.prog 210= .slice:=by kernel_rfl
@[go_sem] theorem C0A:G2 Tryz.prog 210=some (26,1,24):=by kernel_rfl
@[go_sem] theorem B91:C7 Tryz.prog 216= .slice:=by kernel_rfl
@[go_sem] theorem B7y:F2 Tryz.prog 216=some (false,1):=by kernel_rfl
@[go_sem] theorem C0B:G2 Tryz.prog 216=some (246,4,64):=by kernel_rfl
@[go_sem] theorem C0U:F8 Tryz.prog 216=some [.nilsl]:=by kernel_rfl
@[go_sem] theorem B92:C7 Tryz.prog 219= .slice:=by kernel_rfl
@[go_sem] theorem C0C:G2 Tryz.prog 219=some (3,1,8):=by kernel_rfl
@[go_sem] theorem B93:C7 Tryz.prog 240= .slice:=by kernel_rfl
@[go_sem] theorem B7z:F2 Tryz.prog 240=some (false,1):=by kernel_rfl
@[go_sem] theorem C0D:G2 Tryz.prog 240=some (244,2,32):=by kernel_rfl
@[go_sem] theorem B94:C7 Tryz.prog 242= .slice:=by kernel_rfl
@[go_sem] theorem B70:F2 Tryz.prog 242=some (false,1):=by kernel_rfl
@[go_sem] theorem C0E:G2 Tryz.prog 242=some (194,1,4):=by kernel_rfl
@[go_sem] theorem B95:C7 Tryz.prog 244= .struct:=by kernel_rfl
@[go_sem] theorem B71:F2 Tryz.prog 244=some (true,2):=by kernel_rfl
@[go_sem] theorem B7j:K6 Tryz.prog 244=some [(0,false,1),(1,false,1)]:=by kernel_rfl
@[go_sem] theorem C0V:F8 Tryz.prog 244=some [.bool false,.nilsl]:=by kernel_rfl
@[go_sem] theorem C1C:A1V Tryz.prog 244=none:=by kernel_rfl
@[go_sem] theorem B96:C7 Tryz.prog 246= .struct:=by kernel_rfl
@[go_sem] theorem B72:F2 Tryz.prog 246=some (true,4):=by kernel_rfl
@[go_sem] theorem B7k:K6 Tryz.prog 246=some [(0,false,1),(1,true,2),(3,false,1)]:=by kernel_rfl
@[go_sem] theorem C0W:F8 Tryz.prog 246=some [.nilsl,.bool false,.nilsl,.bool false]:=by kernel_rfl
@[go_sem] theorem C1D:A1V Tryz.prog 246=none:=by kernel_rfl
@[go_sem] theorem B97:C7 Tryz.prog 302= .slice:=by kernel_rfl
@[go_sem] theorem C0F:G2 Tryz.prog 302=some (216,1,24):=by kernel_rfl
theorem B3:Tryz.prog.follows .mixedOrders=true:=by kernel_rfl
end Go.Proofs
end
section
namespace Go.Av
section
variable {P:Program} {E:Env} {H:Heap} {K:Env→Heap→Prop} {l:List Oper} {KD:D→Heap→Prop} {ev:Operand→D} {cs:Nat→CR} {bs:Nat→Bl} {bl:Bl} {c:CR} {gs:List (Option Nat)}
def pK(P:Program)(gs:List (Option Nat))(cs:Nat→CR)(bs:Nat→Bl)(K:Env→Heap→Prop)(i:Nat)(l:List Oper)(dst:Option Nat)(E:Env):D→Heap→Prop:=fun d H=>wpP P gs cs bs K i l (E.put dst d) H
def pOp(P:Program)(c:CR)(bl:Bl)(ev:Operand→D)(H:Heap)(KD:D→Heap→Prop)(op:Op):Prop:=
 ∃e,j4 P c bl.l ev H op=some e∧A5Z bl H e∧N9 P c bl.l ev H op∧∀b,e.okH b H→KD (e.val b) (e.app b H)
def A0V(P:Program)(gs:List (Option Nat))(cs:Nat→CR)(bs:Nat→Bl)(K:Env→Heap→Prop)(i:Nat)(l:List Oper)(dst:Option Nat)(op:Op)(s:Nat)(d:D)(want:Bool)(E:Env)(H:Heap):Prop:=
 (d= .tuple []∧wpP P gs cs bs K (i+1) l (E.put dst (.tuple [])) H)∨
 ∃b,d= .bool b∧(b=want→pOp P (cs i) (bs i) (Env.ev ((s,.bool want)::E)) H (pK P gs cs bs K (i+1) l dst ((s,.bool want)::E)) op)∧(b= !want→wpP P gs cs bs K (i+1) l (Env.put ((s,.bool (!want))::E) dst (.tuple [])) H)
def A72(P:Program)(gs:List (Option Nat))(cs:Nat→CR)(bs:Nat→Bl)(K:Env→Heap→Prop)(i:Nat)(l:List Oper)(dst:Option Nat)(op:Op)(s:Option Nat)(want:Bool)(E:Env)(H:Heap):Prop:=match s with
 |none=>wpP P gs cs bs K (i+1) l (E.put dst (.tuple [])) H
 |some s=>A0V P gs cs bs K i l dst op s (E.get s) want E H
@[go_sem] theorem C8s(i:Nat):wpP P gs cs bs K i [] E H=K E H:=rfl
@[go_sem] theorem C7m(i:Nat)(dst:Option Nat)(op:Op)(ty:Nat)(pos:String)(after:Array Edge):wpP P gs cs bs K i (⟨dst,op,ty,pos,after,none⟩::l) E H=pOp P (cs i) (bs i) (Env.ev E) H (pK P gs cs bs K (i+1) l dst E) op:=rfl
@[go_sem] theorem C6u(i:Nat)(dst:Option Nat)(op:Op)(ty:Nat)(pos:String)(after:Array Edge)(j:Nat)(want:Bool):
  wpP P gs cs bs K i (⟨dst,op,ty,pos,after,some (j,want)⟩::l) E H=A72 P gs cs bs K i l dst op (G9 gs j) want E H:=by
 rw[wpP]
 simp only[]
 unfold A1e A72
 cases G9 gs j<;>rfl
@[go_sem] theorem B8S(i:Nat)(dst:Option Nat)(op:Op)(s:Nat)(want:Bool):A72 P gs cs bs K i l dst op (some s) want E H=A0V P gs cs bs K i l dst op s (E.get s) want E H:=rfl
theorem Y9(i:Nat)(dst:Option Nat)(op:Op)(s:Nat)(b want:Bool):A0V P gs cs bs K i l dst op s (.bool b) want E H=
  ((b=want→pOp P (cs i) (bs i) (Env.ev ((s,.bool want)::E)) H (pK P gs cs bs K (i+1) l dst ((s,.bool want)::E)) op)∧(b= !want→wpP P gs cs bs K (i+1) l (Env.put ((s,.bool (!want))::E) dst (.tuple [])) H)):=by
 unfold A0V;apply propext;constructor
 ·rintro(⟨h,_⟩|⟨b',h,h1⟩)
  ·cases h
  ·cases h;exact h1
 ·exact fun h=>.inr ⟨b,rfl,h⟩
attribute [go_sem low] Y9
@[go_sem high] theorem C0q(i:Nat)(dst:Option Nat)(op:Op)(s:Nat)(want:Bool):A0V P gs cs bs K i l dst op s (.tuple []) want E H=wpP P gs cs bs K (i+1) l (E.put dst (.tuple [])) H:=by
 unfold A0V;apply propext;constructor
 ·rintro(⟨_,h⟩|⟨b',h,_⟩)
  ·exact h
  ·cases h
 ·exact fun h=>.inl ⟨rfl,h⟩
@[go_sem high] theorem C4Z(i:Nat)(dst:Option Nat)(op:Op)(s:Nat):A0V P gs cs bs K i l dst op s (.bool true) true E H=pOp P (cs i) (bs i) (Env.ev ((s,.bool true)::E)) H (pK P gs cs bs K (i+1) l dst ((s,.bool true)::E)) op:=by rw[Y9];simp
@[go_sem high] theorem C4a(i:Nat)(dst:Option Nat)(op:Op)(s:Nat):A0V P gs cs bs K i l dst op s (.bool false) false E H=pOp P (cs i) (bs i) (Env.ev ((s,.bool false)::E)) H (pK P gs cs bs K (i+1) l dst ((s,.bool false)::E)) op:=by rw[Y9];simp
@[go_sem high] theorem C4b(i:Nat)(dst:Option Nat)(op:Op)(s:Nat):A0V P gs cs bs K i l dst op s (.bool true) false E H=wpP P gs cs bs K (i+1) l (Env.put ((s,.bool true)::E) dst (.tuple [])) H:=by rw[Y9];simp
@[go_sem high] theorem C4c(i:Nat)(dst:Option Nat)(op:Op)(s:Nat):A0V P gs cs bs K i l dst op s (.bool false) true E H=wpP P gs cs bs K (i+1) l (Env.put ((s,.bool false)::E) dst (.tuple [])) H:=by rw[Y9];simp
@[go_sem] theorem C7n(i:Nat)(dst:Option Nat)(d:D):pK P gs cs bs K i l dst E d H=wpP P gs cs bs K i l (E.put dst d) H:=rfl
theorem A0W{op:Op}(hc:I5 P op= .pure)(hw:D0 P ev H KD op=Q8 (J9 P ev op) KD H):pOp P c bl ev H KD op=D0 P ev H KD op:=by
 rw[hw]
 apply propext
 unfold pOp
 rw[S4 hc]
 constructor
 ·rintro⟨e,he,_,_,hk⟩
  obtain⟨d,hd,rfl⟩:=C9Y.1 he
  have:=hk 0 trivial
  refine⟨d,hd,?_⟩
  have e2:(val d []).app 0 H=H:=F3 H
  rw[e2]at this;exact this
 ·rintro⟨d,hd,hk⟩
  refine⟨val d [],by rw[hd];rfl,⟨by simp[val],by simp[val],by simp[val],by simp[val]⟩,?_,fun b _=>?_⟩
  ·cases op<;>try trivial
   rename_i cc
   obtain⟨callee,args,ats⟩:=cc
   cases callee with
   |value f=>simp[I5]at hc
   |_=>trivial
  ·have e2:(val d []).app b H=H:=F3 H
   rw[e2];exact hk
@[go_sem] theorem C7o(x:Operand):pOp P c bl ev H KD (.move x)=D0 P ev H KD (.move x):=A0W rfl rfl
@[go_sem] theorem C5j(x:Operand):pOp P c bl ev H KD (.assign x)=D0 P ev H KD (.assign x):=A0W rfl rfl
@[go_sem] theorem C7p(x y z:Operand):pOp P c bl ev H KD (.pick x y z)=D0 P ev H KD (.pick x y z):=A0W rfl rfl
@[go_sem] theorem C6v(t:Nat)(ps:Array (Nat×Operand)):pOp P c bl ev H KD (.build t ps)=D0 P ev H KD (.build t ps):=A0W rfl rfl
@[go_sem] theorem C6w(x:Operand):pOp P c bl ev H KD (.nilCheck x)=D0 P ev H KD (.nilCheck x):=A0W rfl rfl
@[go_sem] theorem C8t(op:BinOp)(t:Nat)(x y:Operand)(yt:Nat):pOp P c bl ev H KD (.binOp op t x y yt)=D0 P ev H KD (.binOp op t x y yt):=A0W rfl rfl
@[go_sem] theorem C9B(op:UnOp)(t:Nat)(x:Operand):pOp P c bl ev H KD (.unOp op t x)=D0 P ev H KD (.unOp op t x):=A0W rfl rfl
@[go_sem] theorem C9C(t:Nat)(x:Operand)(f:Nat):pOp P c bl ev H KD (.fieldAddr t x f)=D0 P ev H KD (.fieldAddr t x f):=A0W rfl rfl
@[go_sem] theorem C9D(t:Nat)(x i:Operand):pOp P c bl ev H KD (.indexAddr t x i)=D0 P ev H KD (.indexAddr t x i):=A0W rfl rfl
@[go_sem] theorem C8u(x:Operand)(t:Nat)(h:C7 P t≠ .map):pOp P c bl ev H KD (.call ⟨.builtin .len,#[x],#[t]⟩)=D0 P ev H KD (.call ⟨.builtin .len,#[x],#[t]⟩):=by
 have hc:I5 P (.call ⟨.builtin .len,#[x],#[t]⟩)= .pure:=by
  unfold C7 at h
  cases hu:P.underlying t with
  |none=>simp[I5,hu]
  |some u=>cases u<;>simp[I5,hu]<;>simp[hu]at h
 refine A0W hc ?_
 simp only[D0,hc];rfl
def B5L(bl:Bl)(H:Heap)(l:List Nat):Prop:=∀b∈l,(b∈bl.l∧H b≠none)∧b∉bl.no
@[go_sem] theorem C5k:B5L bl H []=True:=by simp[B5L]
@[go_sem high] theorem C5l(l m:List Nat)(b:Nat):B5L ⟨l,[],m⟩ H [b]=(b∈l∧H b≠none):=by simp[B5L]
@[go_sem] theorem C6x(b o:Nat):rdB (.box b o)= [b]:=rfl
@[go_sem] theorem C7q(b s i o:Nat):rdB (.el b s i o)= [b]:=rfl
@[go_sem] theorem C7r(cs:List D):rdB (.ro cs)= []:=rfl
@[go_sem] theorem C7s(t:Nat)(x:Operand):pOp P c bl ev H KD (.load t x)=(B5L bl H (rdB (ev x))∧D0 P ev H KD (.load t x)):=by
 apply propext
 unfold pOp
 constructor
 ·rintro⟨e,he,hok,_,hk⟩
  rw[H9 (by simp[I5])]at he
  simp only[H7,C9Y]at he
  obtain⟨d,hd,rfl⟩:=he
  have:=hk 0 trivial
  have e2:(val d (rdB (ev x))).app 0 H=H:=F3 H
  rw[e2]at this
  exact⟨hok.rd,d,hd,this⟩
 ·rintro⟨hr,d,hd,hk⟩
  refine⟨val d (rdB (ev x)),by rw[H9 (by simp[I5])];simp only[H7,hd,Option.map_some],⟨hr,by simp[val],by simp[val],by simp[val]⟩,trivial,fun b _=>?_⟩
  have e2:(val d (rdB (ev x))).app b H=H:=F3 H
  rw[e2];exact hk
theorem B1H{op:Op}{f:Nat→D}{o:Obj}(ho:o.rw=true)(hr:j4 P c bl.l ev H op=some (A0i f o))(hc:N9 P c bl.l ev H op)(h: ∀b,H b=none→KD (f b) (H.set b o)):pOp P c bl ev H KD op:=
 ⟨_,hr,⟨by simp[A0i],by simp[A0i],fun o' h'=>by cases h';exact ho,by simp[A0i]⟩,hc,fun b hb=>by
  have hb':H b=none:=by rcases hb with hb|hb;exact hb;simp[A0i]at hb
  have e2:(A0i f o).app b H=H.set b o:=by show (H.minus []).set b o=_;rw[F3]
  rw[e2];exact h b hb'⟩
theorem A2l{op:Op}{f:Nat→D}{o:Obj}(hr:j4 P c bl.l ev H op=some (A0i f o))(h:pOp P c bl ev H KD op): ∀b,H b=none→KD (f b) (H.set b o):=by
 obtain⟨e,he,hok,_,hk⟩:=h
 rw[hr]at he;cases he
 intro b hb
 have:=hk b (.inl hb)
 have e2:(A0i f o).app b H=H.set b o:=by show (H.minus []).set b o=_;rw[F3]
 rw[e2]at this;exact this
@[go_sem] theorem C6y(t:Nat):pOp P c bl ev H KD (.alloc t)=D0 P ev H KD (.alloc t):=by
 apply propext
 constructor
 ·intro h
  have h':=h
  obtain⟨e,he,_⟩:=h'
  rw[H9 (by simp[I5])]at he
  simp only[H7,C9Y]at he
  obtain⟨z,hz,rfl⟩:=he
  exact⟨z,hz,A2l (f:=fun b=>.box b 0) (o:=.box z (A1V P t)) (by rw[H9 (by simp[I5])];simp only[H7,hz,Option.map_some]) h⟩
 ·rintro⟨z,hz,hk⟩
  exact B1H (f:=fun b=>.box b 0) (o:=.box z (A1V P t)) rfl (by rw[H9 (by simp[I5])];simp only[H7,hz,Option.map_some]) trivial hk
@[go_sem] theorem B8T(t n:Nat)(ps:Array (Nat×Operand)):pOp P c bl ev H KD (.buildSlice t n ps)=D0 P ev H KD (.buildSlice t n ps):=by
 apply propext
 constructor
 ·intro h
  have h':=h
  obtain⟨e,he,_⟩:=h'
  rw[H9 (by simp[I5])]at he
  simp only[H7,bsE]at he
  obtain⟨⟨e',sz,by_⟩,hT,he⟩:=C9b.1 he
  split at he
  ·rename_i h1
   obtain⟨z,hz,he⟩:=C9b.1 he
   split at he
   ·rename_i h2
    obtain⟨es,hes,rfl⟩:=C9Y.1 he
    exact⟨e',sz,by_,z,es,hT,h1.1,h1.2,hz,h2,hes,A2l (f:=fun b=>.vec b sz 0 n) (o:=.vec sz es) (by rw[H9 (by simp[I5])];simp only[H7,bsE,hT,C9t];rw[if_pos h1,hz,C9t,if_pos h2];simp only[hes,Option.map_some]) h⟩
   ·cases he
  ·cases he
 ·rintro⟨e',sz,by_,z,es,hT,h1,h1',hz,h2,hes,hk⟩
  exact B1H (f:=fun b=>.vec b sz 0 n) (o:=.vec sz es) rfl (by rw[H9 (by simp[I5])];simp only[H7,bsE,hT,C9t];rw[if_pos ⟨h1,h1'⟩,hz,C9t,if_pos h2];simp only[hes,Option.map_some]) trivial hk
@[go_sem] theorem C0r(t:Nat)(l c':Operand):pOp P c bl ev H KD (.makeSlice t l c')=D0 P ev H KD (.makeSlice t l c'):=by
 apply propext
 constructor
 ·intro h
  have h':=h
  obtain⟨e,he,_⟩:=h'
  rw[H9 (by simp[I5])]at he
  simp only[H7]at he
  obtain⟨e',sz,by_,z,k,n,k',m,h1,h2,h3,h4,h5,h6,h7,h8,h9,h10,rfl⟩:=A4z he
  exact⟨e',sz,by_,z,k,n,k',m,h1,h2,h3,h4,h5,h6,h7,h8,h9,h10,A2l (f:=fun b=>.vec b sz 0 n.toNat) (o:=.vec sz (List.replicate n.toNat z)) (by rw[H9 (by simp[I5])];exact he) h⟩
 ·rintro⟨e',sz,by_,z,k,n,k',m,h1,h2,h3,h4,h5,h6,h7,h8,h9,h10,hk⟩
  exact B1H (f:=fun b=>.vec b sz 0 n.toNat) (o:=.vec sz (List.replicate n.toNat z)) rfl (by rw[H9 (by simp[I5])];simp only[H7];rw[h5,h6];exact C1b h1 h2 h3 h4 h7 h8 h9 h10) trivial hk
def C2F:D→Prop
 | .box _ _| .el _ _ _ _=>True
 |_=>False
@[go_sem] theorem C5m(b o:Nat):C2F (.box b o)=True:=rfl
@[go_sem] theorem C6z(b s i o:Nat):C2F (.el b s i o)=True:=rfl
@[go_sem] theorem C60(t:Nat)(a x:Operand):pOp P c bl ev H KD (.store t a x)=(C2F (ev a)∧D0 P ev H KD (.store t a x)):=by
 apply propext
 have hrun:j4 P c bl.l ev H (.store t a x)=j0 P t (ev a) (ev x) H:=by rw[H9 (by simp[I5])];rfl
 constructor
 ·rintro⟨e,he,hok,_,hk⟩
  rw[hrun]at he
  unfold j0 at he
  obtain⟨H1,hs,he⟩:=C9b.1 he
  have fin: ∀b,rdB (ev a)= [b]→(H1 b).map (fun o=>(⟨[],[b],some o,some b,fun _=>.undef⟩:Ef))=some e→D0 P ev H KD (.store t a x):=by
   intro b hb h1
   obtain⟨o,ho,rfl⟩:=C9Y.1 h1
   obtain⟨o',ho',_,hH1,_⟩:=A2A hs hb
   rw[ho]at ho';cases ho'
   have:=hk b rfl
   have e2:((⟨[],[b],some o,some b,fun _=>.undef⟩:Ef)).app b H=H1:=by show (H.minus [b]).set b o=_;rw[Y1,hH1]
   rw[e2]at this
   exact⟨H1,hs,this⟩
  cases ha:ev a with
  |box b off=>rw[ha]at he;exact⟨trivial,fin b (by rw[ha];rfl) he⟩
  |el b s i off=>rw[ha]at he;exact⟨trivial,fin b (by rw[ha];rfl) he⟩
  |_=>rw[ha]at he;simp at he
 ·rintro⟨h1,H1,hs,hk⟩
  have fin: ∀b,rdB (ev a)= [b]→j0 P t (ev a) (ev x) H=(H1 b).map (fun o=>(⟨[],[b],some o,some b,fun _=>.undef⟩:Ef))→pOp P c bl ev H KD (.store t a x):=by
   intro b hb hst
   obtain⟨o,ho,hrw,hH1,hrw2⟩:=A2A hs hb
   rw[ho,Option.map_some]at hst
   refine⟨_,hrun.trans hst,⟨by simp,fun k hk=>?_,fun o' h'=>by cases h';exact hrw,fun k hk=>by cases hk;simp⟩,trivial,fun k hkb=>?_⟩
   ·simp at hk;subst hk;exact⟨(fun h=>absurd h (by simp)),hrw2⟩
   ·have hkb:k=b:=hkb
    subst hkb
    show KD .undef ((H.minus [k]).set k o)
    rw[Y1,←hH1];exact hk
  cases ha:ev a with
  |box b off=>exact fin b (by rw[ha];rfl) (by rw[ha]at hs⊢;simp only[j0,hs,C9t])
  |el b s i off=>exact fin b (by rw[ha];rfl) (by rw[ha]at hs⊢;simp only[j0,hs,C9t])
  |_=>rw[ha]at h1;exact h1.elim
def xOk(bl:Bl)(H:Heap)(l:List Nat):Prop:=(∀b∈inB bl.l l,H b≠none∧b∉bl.no)∧∀b∈R3 bl.l l,B03 (H b)=true
def C2G(bl:Bl)(b:Nat):Prop:=b∉bl.l∨b∈bl.may
def paV(o:Option Obj)(bl:Bl)(xl:List Nat)(b sz n by_:Nat)(xs:List (List D))(H:Heap)(KD:D→Heap→Prop):Prop:=match o with
 |some (.vec sz' es)=>sz'=sz∧n≤es.length∧(n+xs.length)*by_≤140737488355328∧n+xs.length≤9223372036854775807∧C2G bl b∧xOk bl H xl∧
   ∀b',(H b'=none∨b'∈b::R3 bl.l xl)→KD (.vec b' sz 0 (n+xs.length)) ((H.minus (b::R3 bl.l xl)).set b' (.vec sz (es.take n++xs)))
 |_=>False
@[go_sem] theorem B8U(bl:Bl)(xl:List Nat)(b sz sz' n by_:Nat)(es xs:List (List D)):paV (some (.vec sz' es)) bl xl b sz n by_ xs H KD=(sz'=sz∧n≤es.length∧(n+xs.length)*by_≤140737488355328∧n+xs.length≤9223372036854775807∧C2G bl b∧xOk bl H xl∧
      ∀b',(H b'=none∨b'∈b::R3 bl.l xl)→KD (.vec b' sz 0 (n+xs.length)) ((H.minus (b::R3 bl.l xl)).set b' (.vec sz (es.take n++xs)))):=rfl
def paS(s:D)(bl:Bl)(xl:List Nat)(sz by_:Nat)(xs:List (List D))(H:Heap)(KD:D→Heap→Prop):Prop:=match s with
 | .nilsl=>xs.length*by_≤140737488355328∧xs.length≤9223372036854775807∧xs.isEmpty=false∧xOk bl H xl∧∀b,(H b=none∨b∈R3 bl.l xl)→KD (.vec b sz 0 xs.length) ((H.minus (R3 bl.l xl)).set b (.vec sz xs))
 | .vec b sz' lo n=>sz'=sz∧lo=0∧paV (H b) bl xl b sz n by_ xs H KD
 |_=>False
@[go_sem] theorem B8V(bl:Bl)(xl:List Nat)(sz by_:Nat)(xs:List (List D)):paS .nilsl bl xl sz by_ xs H KD=(xs.length*by_≤140737488355328∧xs.length≤9223372036854775807∧xs.isEmpty=false∧xOk bl H xl∧∀b,(H b=none∨b∈R3 bl.l xl)→KD (.vec b sz 0 xs.length) ((H.minus (R3 bl.l xl)).set b (.vec sz xs))):=rfl
@[go_sem] theorem B8W(bl:Bl)(xl:List Nat)(b sz sz' lo n by_:Nat)(xs:List (List D)):paS (.vec b sz' lo n) bl xl sz by_ xs H KD=(sz'=sz∧lo=0∧paV (H b) bl xl b sz n by_ xs H KD):=rfl
def paX(o:Option (List (List D)))(s x:D)(bl:Bl)(sz by_:Nat)(H:Heap)(KD:D→Heap→Prop):Prop:=match o with
 |some xs=>paS s bl (T4 x) sz by_ xs H KD
 |none=>False
@[go_sem] theorem B5N(xs:List (List D))(s x:D)(sz by_:Nat):paX (some xs) s x bl sz by_ H KD=paS s bl (T4 x) sz by_ xs H KD:=rfl
def paK(P:Program)(et:Option (Nat×Nat×Nat))(bt:Q0)(s x:D)(bl:Bl)(H:Heap)(KD:D→Heap→Prop):Prop:=match et with
 |some (e,sz,by_)=>0<sz∧apT bt∧apZ (F8 P e) sz∧paX (M3 H sz x) s x bl sz by_ H KD
 |none=>False
@[go_sem] theorem B5O(e sz by_:Nat)(bt:Q0)(s x:D):paK P (some (e,sz,by_)) bt s x bl H KD=(0<sz∧apT bt∧apZ (F8 P e) sz∧paX (M3 H sz x) s x bl sz by_ H KD):=rfl
@[go_sem] theorem C5n(b sz lo n:Nat):T4 (.vec b sz lo n)= [b]:=rfl
@[go_sem] theorem C63(sz:Nat)(es:List (List D)):T4 (.sl sz es)= []:=rfl
@[go_sem] theorem C5o(k:IntKind)(n:Int):T4 (.int k n)= []:=rfl
@[go_sem] theorem C4d(b:Bool):T4 (.bool b)= []:=rfl
@[go_sem] theorem C5p(cs:List D):T4 (.agg cs)= []:=rfl
@[go_sem] theorem C5q(b o:Nat):T4 (.box b o)= [b]:=rfl
@[go_sem] theorem x9(bl:List Nat):R3 bl []= []:=rfl
theorem A9c{bl:List Nat}(b:Nat)(l:List Nat)(h:b∉bl):R3 bl (b::l)=b::R3 bl l:=by simp[R3,h]
theorem B8X{bl:List Nat}(b:Nat)(l:List Nat)(h:b∈bl):R3 bl (b::l)=R3 bl l:=by simp[R3,h]
@[go_sem] theorem B2M:xOk bl H []=True:=by simp[xOk,inB,R3]
theorem B2N(b:Nat)(o:Obj)(hb:H b=some o)(hr:o.rw=true)(hno:b∉bl.l∨b∉bl.no):xOk bl H [b]:=by
 refine⟨fun k hk=>?_,fun k hk=>?_⟩
 ·have hk2:=j5.1 hk;have:=hk2.1;simp at this;subst this;exact⟨by rw[hb];simp,hno.resolve_left fun g=>g hk2.2⟩
 ·have:=(R4.1 hk).1;simp at this;subst this;rw[hb];exact hr
theorem A1D(b:Nat)(l:List Nat):H.minus (b::l)=(H.del b).minus l:=by
 funext k;unfold Heap.minus Heap.del
 by_cases h1:k=b<;>by_cases h2:k∈l<;>simp[h1,h2]
theorem A9d{s x:Operand}{t t':Nat}(h:paK P (G2 P t) (C7 P t') (ev s) (ev x) bl H KD):pOp P c bl ev H KD (.call ⟨.builtin .append,#[s,x],#[t,t']⟩):=by
 have hrun:j4 P c bl.l ev H (.call ⟨.builtin .append,#[s,x],#[t,t']⟩)=B04 P bl.l H t t' (ev s) (ev x):=by rw[H9 (by simp[I5])];rfl
 unfold paK at h
 split at h
 ·rename_i e sz by_ hT
  obtain⟨h1,h2,h3,h4⟩:=h
  have h3':(F8 P e).map (·.length)=some sz:=by
   unfold apZ at h3
   split at h3
   ·rename_i z hz;rw[hz];simp[h3]
   ·exact h3.elim
  unfold paX at h4
  split at h4
  ·rename_i xs hxs
   have hrun2:=hrun
   unfold B04 at hrun2
   rw[hT,C9t,if_pos ⟨h1,h2,h3'⟩,hxs,C9t]at hrun2
   have okx: ∀(del:List Nat) (new:Option Obj) (f:Nat→D),xOk bl H (T4 (ev x))→(∀b∈del,C2G bl b∧B03 (H b)=true)→(∀o,new=some o→o.rw=true)→A5Z bl H ⟨inB bl.l (T4 (ev x)),del,new,none,f⟩:=fun del new f hx hd hn=>
    ⟨fun b hb=>⟨⟨(j5.1 hb).2,(hx.1 b hb).1⟩,(hx.1 b hb).2⟩,fun b hb=>⟨fun _=>(hd b hb).1,(hd b hb).2⟩,hn,fun b hb=>by cases hb⟩
   unfold paS at h4
   split at h4
   ·rename_i hs
    obtain⟨k1,k2,k3,k4,k5⟩:=h4
    rw[hs]at hrun2
    simp only at hrun2
    rw[if_pos ⟨k1,k2,k3⟩]at hrun2
    exact⟨_,hrun2,okx _ _ _ k4 (fun b hb=>⟨.inl (R4.1 hb).2,k4.2 b hb⟩) (fun o ho=>by cases ho;rfl),trivial,fun b hb=>k5 b hb⟩
   ·rename_i b sz' lo n hs
    obtain⟨k1,k2,h5⟩:=h4
    unfold paV at h5
    split at h5
    ·rename_i sz'' es hb
     obtain⟨k3,k4,k5,k6,k7,k8,k9⟩:=h5
     rw[hs]at hrun2
     simp only[hb]at hrun2
     rw[if_pos ⟨k1,k3,k2,k4,k5,k6⟩]at hrun2
     refine⟨_,hrun2,okx _ _ _ k8 (fun b' hb'=>?_) (fun o ho=>by cases ho;rfl),trivial,fun b' hb'=>k9 b' hb'⟩
     rcases C9r.1 hb' with rfl|hb'
     ·exact⟨k7,by rw[hb];rfl⟩
     ·exact⟨.inl (R4.1 hb').2,k8.2 b' hb'⟩
    ·exact h5.elim
   ·exact h4.elim
  ·exact h4.elim
 ·exact h.elim
def A6X:List D→List Nat:=fun l=>l.flatMap T4
@[go_sem] theorem C5r:A6X []= []:=rfl
theorem B3a(d:D)(l:List D):A6X (d::l)=T4 d++A6X l:=by simp[A6X]
attribute [go_sem] B3a
def crK(c:CR)(H:Heap)(l:List Nat)(KD:D→Heap→Prop):Prop:=match c.new with
 |none=>KD (c.val 0) (H.minus l)
 |some o=>o.rw=true∧∀b,(H b=none∨b∈l)→KD (c.val b) ((H.minus l).set b o)
def pcA(P:Program)(c:CR)(bl:Bl)(f:D)(args:List D)(H:Heap)(KD:D→Heap→Prop):Prop:=match f with
 | .fn (.func g) first cap=>(∀b∈inB bl.l (A6X (first++args++cap)),H b≠none∧b∉bl.no)∧(∀b∈R3 bl.l (A6X (first++args++cap)),B03 (H b)=true)∧
   B4r P g (first++args++cap) H (A6X (first++args++cap)) (R3 bl.l (A6X (first++args++cap))) c∧crK c H (R3 bl.l (A6X (first++args++cap))) KD
 |_=>False
def pcB(P:Program)(c:CR)(bl:Bl)(g:Nat)(as_:List D)(l:List Nat)(H:Heap)(KD:D→Heap→Prop):Prop:=xOk bl H l∧B4r P g as_ H l (R3 bl.l l) c∧crK c H (R3 bl.l l) KD
@[go_sem] theorem C7u(g:Nat)(first args cap:List D):pcA P c bl (.fn (.func g) first cap) args H KD=pcB P c bl g (first++args++cap) (A6X (first++args++cap)) H KD:=by
 unfold pcA pcB xOk;simp only[and_assoc]
@[go_sem] theorem C7v(f:Operand)(args:List Operand)(ts:Array Nat):pOp P c bl ev H KD (.call ⟨.value f,args.toArray,ts⟩)=pcA P c bl (ev f) (args.map ev) H KD:=by
 have hrun:j4 P c bl.l ev H (.call ⟨.value f,args.toArray,ts⟩)=H7 P c bl.l ev H (.call ⟨.value f,args.toArray,ts⟩):=H9 (by simp[I5])
 apply propext
 unfold pcA
 constructor
 ·rintro⟨e,he,hok,hc,hk⟩
  rw[hrun]at he
  simp only[H7]at he
  simp only[N9]at hc
  split at he
  ·rename_i g first cap hf
   cases he
   (first|rw[hf]at hc⊢ |rw[hf]at hc)
   refine⟨fun b hb=>⟨(hok.rd b hb).1.2,(hok.rd b hb).2⟩,fun b hb=>(hok.del b hb).2,hc,?_⟩
   unfold crK
   unfold Ef.okH Ef.app at hk
   cases hn:c.new with
   |none=>simp only[hn,CR.f]at hk⊢;exact hk 0 trivial
   |some o=>
    simp only[hn,CR.f]at hk⊢
    exact⟨hok.new o hn,fun b hb=>hk b hb⟩
  ·cases he
 ·intro h
  split at h
  ·rename_i g first cap hf
   obtain⟨h1,h2,h3,h4⟩:=h
   refine⟨⟨inB bl.l ((first++args.map ev++cap).flatMap T4),R3 bl.l ((first++args.map ev++cap).flatMap T4),c.new,none,c.f⟩,?_,⟨fun b hb=>⟨⟨(j5.1 hb).2,(h1 b hb).1⟩,(h1 b hb).2⟩,fun b hb=>⟨fun _=>.inl (R4.1 hb).2,h2 b hb⟩,fun o ho=>?_,by simp⟩,?_,fun b hb=>?_⟩
   ·rw[hrun];simp only[H7,hf]
   ·unfold crK at h4
    simp only at ho
    rw[ho]at h4
    exact h4.1
   ·simp only[N9,hf];exact h3
   ·unfold crK at h4
    unfold Ef.okH at hb
    unfold Ef.app
    cases hn:c.new with
    |none=>simp only[hn,CR.f]at h4⊢;exact h4
    |some o=>
     simp only[hn,CR.f]at h4 hb⊢
     exact h4.2 b hb
  ·exact h.elim
theorem Q9{g:Nat}{as_:List D}{c:D}(h: ∀(H':Heap) (Q:D→Heap→Prop),(∀k cs,H k=some (.ro cs)→H' k=some (.ro cs))→Q c H'→ACalls P g as_ H' Q)(hk:KD c H):pcB P (.c c) bl g as_ [] H KD:=
 ⟨by rw[B2M];trivial,fun H' hro _=>h H' _ hro ⟨rfl,by rw[x9,F3];exact D0q H'⟩,by rw[x9];show KD c (H.minus []);rw[F3];exact hk⟩
theorem pc1{g b:Nat}{as_:List D}{c:D}{o:Obj}(hb:H b=some o)(hr:o.rw=true)(hn:b∉bl.l)(h: ∀(H':Heap) (Q:D→Heap→Prop),(∀k cs,H k=some (.ro cs)→H' k=some (.ro cs))→H' b=some o→Q c (H'.del b)→ACalls P g as_ H' Q)(hk:KD c (H.del b)):pcB P (.c c) bl g as_ [b] H KD:=by
 have e:R3 bl.l [b]= [b]:=by rw[A9c b [] hn,x9]
 have e2: ∀H:Heap,H.minus [b]=H.del b:=fun H=>by rw[A1D,F3]
 exact⟨B2N b o hb hr (.inl hn),fun H' hro hf=>h H' _ hro (by rw[hf b (by simp),hb]) ⟨rfl,by rw[e,e2];exact D0q _⟩,by rw[e];show KD c (H.minus [b]);rw[e2];exact hk⟩
theorem pcm{g:Nat}{as_:List D}{f:Nat→D}{o:Obj}(ho:o.rw=true)(h: ∀(H':Heap) (Q:D→Heap→Prop),(∀k cs,H k=some (.ro cs)→H' k=some (.ro cs))→(∀b,H' b=none→Q (f b) (H'.set b o))→ACalls P g as_ H' Q)(hk: ∀b,H b=none→KD (f b) (H.set b o)):pcB P (.mk' f o) bl g as_ [] H KD:=by
 refine⟨by rw[B2M];trivial,fun H' hro _=>h H' _ hro fun b hb=>?_,?_⟩
 ·exact⟨b,.inl hb,rfl,by rw[x9,F3];exact D0q _⟩
 ·rw[x9]
  refine⟨ho,fun b hb=>?_⟩
  rw[F3]
  exact hk b (hb.resolve_right (by simp))
theorem C2I{bl:List Nat}(b:Nat)(h:b∈bl):inB bl [b]= [b]:=by simp[inB,h]
theorem C7w{g b:Nat}{as_:List D}{f:Nat→D}{o o':Obj}(hb:H b=some o)(hl:b∈bl.l)(hn:b∉bl.no)(ho:o'.rw=true)(h: ∀(H':Heap) (Q:D→Heap→Prop),(∀k cs,H k=some (.ro cs)→H' k=some (.ro cs))→H' b=some o→(∀v,H' v=none→Q (f v) (H'.set v o'))→ACalls P g as_ H' Q)(hk: ∀v,H v=none→KD (f v) (H.set v o')):pcB P (.mk' f o') bl g as_ [b] H KD:=by
 have e:R3 bl.l [b]= []:=by rw[B8X b [] hl,x9]
 refine⟨⟨fun k hk=>?_,fun k hk=>?_⟩,fun H' hro hf=>h H' _ hro (by rw[hf b (by simp),hb]) fun v hv=>?_,?_⟩
 ·rw[C2I b hl]at hk;simp at hk;subst hk;exact⟨by rw[hb];simp,hn⟩
 ·rw[e]at hk;cases hk
 ·exact⟨v,.inl hv,rfl,by rw[e,F3];exact D0q _⟩
 ·rw[e]
  refine⟨ho,fun v hv=>?_⟩
  rw[F3]
  exact hk v (hv.resolve_right (by simp))
end
end Go.Av
end
section
namespace Go.Av
def J4(sz n:Nat):Option Nat→D
 |none=>.nilsl
 |some c=>.vec c sz 0 n
def K5(H:Heap):Option Nat→Heap
 |none=>H
 |some c=>H.del c
def putB(H:Heap)(sz:Nat)(es:List (List D)):Option Nat→Heap
 |none=>H
 |some c=>H.set c (.vec sz es)
def OutAt(H:Heap)(sz:Nat)(es:List (List D)):Option Nat→Prop
 |none=>es= []
 |some c=>H c=some (.vec sz es)
theorem E7{H:Heap}{b:Nat}{o:Obj}(h:H b=none):(H.set b o).del b=H:=by
 funext k
 unfold Heap.del Heap.set
 by_cases hk:k=b
 ·subst hk;simp[h]
 ·simp[hk]
theorem B8Y(H:Heap)(ob:Option Nat):(K5 H ob).Le H:=by
 cases ob with
 |none=>exact D0q H
 |some c=>exact D8 H c
@[go_sem] theorem C5t(sz n:Nat):J4 sz n none= .nilsl:=rfl
@[go_sem] theorem K1(sz n c:Nat):J4 sz n (some c)= .vec c sz 0 n:=rfl
theorem B2O{P:Program}{t sz n:Nat}{ob:Option Nat}(h:ob=none→n=0):A5G P t (J4 sz n ob)=if C7 P t= .slice then some (.int .i64 n)else none:=by
 cases ob with
 |none=>rw[h rfl];rfl
 |some c=>rfl
section
variable {P:Program} {H:Heap} {KD:D→Heap→Prop}
theorem A73{sz by_ n:Nat}{ob:Option Nat}(es:List (List D)){xs:List (List D)}(hne:xs≠[])(hn:n=es.length)(hc:OutAt H sz es ob)(h1:(n+xs.length)*by_≤140737488355328)(h2:n+xs.length≤9223372036854775807)
  (h: ∀b',K5 H ob b'=none→KD (.vec b' sz 0 (n+xs.length)) ((K5 H ob).set b' (.vec sz (es++xs)))):apS (J4 sz n ob) sz by_ xs H KD:=by
 cases ob with
 |none=>
  have e:es= []:=hc
  subst e
  subst hn
  simp only[C9W,Nat.zero_add,D0b,K5]at h1 h2 h
  exact⟨h1,h2,fun e=>absurd e hne,fun _ b hb=>h b hb⟩
 |some c=>
  have e:H c=some (.vec sz es):=hc
  subst hn
  refine⟨rfl,.inl ⟨rfl,?_⟩⟩
  rw[e]
  refine⟨rfl,C9j _,h1,h2,fun b hb=>?_⟩
  rw[C9e (C9j _)]
  exact h b hb
theorem ACalls.out{f n:Nat}{sz:Nat}{es:List (List D)}{ob:Option Nat}{ds:List D}{Q:D→Heap→Prop}(hn:n=es.length)(hc:OutAt H sz es ob)(h:ACalls P f (.sl sz es::ds) (K5 H ob) Q):ACalls P f (J4 sz n ob::ds) H Q:=by
 subst hn
 cases ob with
 |none=>
  have e:es= []:=hc
  subst e
  refine ACalls.shift (args':=.sl sz []::ds) (fun w vs h1 h2 h3=>⟨by simpa using h1,fun i d hd=>?_,h3,fun _ hn=>hn⟩) h
  cases i with
  |zero=>simp at hd;subst hd;exact(h2 0 _ rfl).nil_sl sz
  |succ i=>exact h2 (i+1) d (by simpa using hd)
 |some c=>
  refine ACalls.freeze (args':=.sl sz es::ds) hc (by simp) (fun i d d' h1 h2=>?_) h
  cases i with
  |zero=>simp[J4]at h1 h2;subst h1;subst h2;exact .all
  |succ i=>simp at h1 h2;rw[h1]at h2;cases h2;exact .same _
theorem T1{f b n sz:Nat}{es:List (List D)}{ds:List D}{Q:D→Heap→Prop}(hb:H b=some (.vec sz es))(hn:n=es.length)(h:ACalls P f (.sl sz es::ds) (H.del b) Q):ACalls P f (.vec b sz 0 n::ds) H Q:=
 ACalls.out (ob:=some b) hn hb h
theorem A0Q{f b n sz:Nat}{es:List (List D)}{a:D}{ds:List D}{Q:D→Heap→Prop}(hb:H b=some (.vec sz es))(hn:n=es.length)(h:ACalls P f (a:: .sl sz es::ds) (H.del b) Q):ACalls P f (a:: .vec b sz 0 n::ds) H Q:=by
 subst hn
 refine ACalls.freeze (args':=a:: .sl sz es::ds) hb (by simp) (fun i d d' h1 h2=>?_) h
 match i with
 |0=>simp at h1 h2;subst h1;subst h2;exact .same _
 |1=>simp at h1 h2;subst h1;subst h2;exact .all
 |i+2=>simp at h1 h2;rw[h1]at h2;cases h2;exact .same _
theorem Fin.out{n sz:Nat}{es:List (List D)}{ob:Option Nat}{Q:D→Heap→Prop}(hn:n=es.length)(hc:OutAt H sz es ob)(h:Fin Q (.sl sz es) (K5 H ob)):Fin Q (J4 sz n ob) H:=by
 subst hn
 cases ob with
 |none=>
  have e:es= []:=hc
  subst e
  unfold Fin at h⊢
  obtain⟨H1,e,h1,h2⟩:=h
  exact⟨H1,e,Shift.trans (fun w v hr hs=>⟨by cases hr;exact .sl0 _ _ _,hs,fun _ hn=>hn⟩) h1,h2⟩
 |some c=>exact Fin.freeze hc .all h
theorem A6S{n sz:Nat}{es:List (List D)}{ob:Option Nat}{ds:List D}{Q:D→Heap→Prop}(hn:n=es.length)(hc:OutAt H sz es ob)(h:Fin Q (.tuple (.sl sz es::ds)) (K5 H ob)):Fin Q (.tuple (J4 sz n ob::ds)) H:=by
 cases ob with
 |none=>
  have e:es= []:=hc
  subst e
  exact Fin.nilsl sz ds h
 |some c=>exact B13 hc hn h
end
theorem B3b{H:Heap}{sz:Nat}{es:List (List D)}{ob:Option Nat}(h:ob=none→es= []):OutAt (putB H sz es ob) sz es ob:=by
 cases ob with
 |none=>exact h rfl
 |some c=>simp[OutAt,putB,Heap.set]
def Rw{α :Type}(f: α →List D)(l:List α):List (List D):=l.map f
section
variable {α :Type} {f: α →List D}
@[go_sem] theorem D6(l:List α):(Rw f l).length=l.length:=by simp[Rw]
theorem A9(l:List α)(k:Nat)(h:k<l.length):(Rw f l).getD k []=f l[k]:=by simp[Rw,h]
theorem C2(l:List α)(k:Nat)(h:k<l.length):(Rw f l)[k]? =some (f l[k]):=by simp[Rw,h]
theorem A74(l:List α)(k:Nat):(Rw f l).take k=Rw f (l.take k):=by simp[Rw]
theorem B8Z(l:List α)(k:Nat):(Rw f l).drop k=Rw f (l.drop k):=by simp[Rw]
theorem O2(l m:List α):Rw f l++Rw f m=Rw f (l++m):=by simp[Rw]
theorem A0X:Rw f []= []:=rfl
theorem X7(l:List α)(k:Nat)(x: α)(c:List D)(h:f x=c):(Rw f l).set k c=Rw f (l.set k x):=by subst h;simp[Rw,List.map_set]
theorem A5i(n:Nat)(x: α)(c:List D)(h:f x=c):List.replicate n c=Rw f (List.replicate n x):=by subst h;simp[Rw]
end
def j7(s:ByteArray):List D:=[.str s]
@[go_sem] theorem C7x(s:ByteArray):j7 s= [.str s]:=rfl
def OutIn(H:Heap)(sz:Nat)(es:List (List D))(ob:Option Nat)(Hc:Heap):Prop:=H.Le Hc∧OutAt Hc sz es ob∧∀b,ob=some b→H b=none
theorem OutIn.set{H:Heap}{sz:Nat}{es:List (List D)}{ob:Option Nat}{Hc:Heap}(h:OutIn H sz es ob Hc){b:Nat}(hb:Hc b=none)(o:Obj):OutIn H sz es ob (Hc.set b o):=by
 refine⟨h.1.trans (A2 hb),?_,h.2.2⟩
 cases ob with
 |none=>exact h.2.1
 |some c=>
  have hc:Hc c=some (.vec sz es):=h.2.1
  show (Hc.set b o) c=_
  rw[A8 o (by rintro rfl;rw[hb]at hc;cases hc)]
  exact hc
theorem OutIn.le{H:Heap}{sz:Nat}{es:List (List D)}{ob:Option Nat}{Hc:Heap}(h:OutIn H sz es ob Hc):H.Le (K5 Hc ob):=by
 cases ob with
 |none=>exact h.1
 |some c=>
  intro k x hk
  show (Hc.del c) k=_
  rw[C8 (by rintro rfl;rw[h.2.2 _ rfl]at hk;cases hk)]
  exact h.1 k x hk
theorem OutIn.new{H:Heap}{sz:Nat}{es:List (List D)}{ob:Option Nat}{Hc:Heap}(h:OutIn H sz es ob Hc){b:Nat}(hb:K5 Hc ob b=none):H b=none:=h.le.none hb
theorem OutIn.step{H:Heap}{sz:Nat}{es:List (List D)}{ob:Option Nat}{Hc:Heap}(h:OutIn H sz es ob Hc){b:Nat}(o:Obj):(H.set b o).Le ((K5 Hc ob).set b o):=by
 intro k x hk
 unfold Heap.set at hk⊢
 split
 ·rename_i e;rw[if_pos e]at hk;exact hk
 ·rename_i e;rw[if_neg e]at hk;exact h.le k x hk
end Go.Av
end
section
namespace Go.Av
section
variable {H Hc:Heap} {KD:D→Heap→Prop} {sz by_ n:Nat} {ob:Option Nat} {es xs:List (List D)}
theorem B5P(h0:OutIn H sz es ob Hc)(hne:xs≠[])(hn:n=es.length)(h1:(n+xs.length)*by_≤140737488355328)(h2:n+xs.length≤9223372036854775807)
  (h: ∀b',H b'=none→K5 Hc ob b'=none→(∀o,(H.set b' o).Le ((K5 Hc ob).set b' o))→KD (.vec b' sz 0 (n+xs.length)) ((K5 Hc ob).set b' (.vec sz (es++xs)))):apS (J4 sz n ob) sz by_ xs Hc KD:=
 A73 es hne hn h0.2.1 h1 h2 fun b' hb'=>h b' (h0.new hb') hb' fun o=>h0.step o
theorem Q3{α :Type}{f: α →List D}(l:List α)(k:Nat)(h:k<l.length):Rw f (l.take (k+1))=Rw f (l.take k)++[f l[k]]:=by
 rw[C9i h];simp only[Rw,D0P,D0g,List.map_nil]
theorem Z0{α :Type}{f: α →List D}(l:List α)(k:Nat)(h:k≤l.length):(Rw f (l.take k)).length=k:=by simp[Rw];omega
end
end Go.Av
end
section
namespace Go.Av
theorem B5Q{b sz:Nat}{es:List (List D)}{E0 E:Env}(h:Av.Sub E0 E): ∀p∈E0,Fz b sz es (E.get p.1) p.2:=fun p hp=>by
 rw[h.all p hp];exact .same _
end Go.Av
end
section
namespace Go.Av
open Go.RowKit
theorem A2D{H:Heap}{w w':World}(h:Below w.heap.size w w'):Ext H w w':=
 ⟨h.os,h.tape,h.output,h.size,fun k hk _=>h.block k hk,fun k hk=>by unfold World.shape?;rw[h.block k hk]⟩
theorem A30{H:Heap}{w w':World}(hs:Sat H w)(h:Below w.heap.size w w'):Sat H w':=fun b o hb=>
 (hs b o hb).mono (A2D h) (D0w _ _) (h.block b (hs.lt hb))
theorem I4{P:Program}{f:Nat}{args:List D}{H:Heap}{Q:D→Heap→Prop}{r:D}(hb:A2b P f=true)
  (h: ∀w (vs:Array Value),args.length=vs.size→(∀(i:Nat) d,args[i]? =some d→R w H d (vs.getD i Go.undef))→Sat H w→Calls P f vs w fun e w'=>∃v,e= .returned v∧Below w.heap.size w w'∧R w' H r v)
  (hq:Q r H):ACalls P f args H Q:=
 ⟨hb,fun w vs h1 h2 h3=>(h w vs h1 h2 h3).mono fun e w' ⟨v,he,hB,hR⟩=>⟨v,he,r,H,hR,A30 h3 hB,A2D hB,D0w _ _,hq⟩⟩
theorem A1i{w:World}{H:Heap}{d:D}{vs:Array Value}(hl: [d].length=vs.size)(hr: ∀(i:Nat) d',[d][i]? =some d'→R w H d' (vs.getD i Go.undef)): ∃a,vs= #[a]∧R w H d a:=by
 obtain⟨l⟩:=vs
 match l,hl with
 | [a],_=>exact⟨a,rfl,by simpa using hr 0 d rfl⟩
theorem y0{w:World}{H:Heap}{d e:D}{vs:Array Value}(hl: [d,e].length=vs.size)(hr: ∀(i:Nat) d',[d,e][i]? =some d'→R w H d' (vs.getD i Go.undef)): ∃a b,vs= #[a,b]∧R w H d a∧R w H e b:=by
 obtain⟨l⟩:=vs
 match l,hl with
 | [a,b],_=>exact⟨a,b,rfl,by simpa using hr 0 d rfl,by simpa using hr 1 e rfl⟩
def A9e(k:IntKind)(zs:List Int):List D:=zs.map (D.int k)
theorem B5R{P:Program}{w:World}{H:Heap}{name:String}{g:Nat}{k:IntKind}{zs:List Int}(hg:P.globalNamed name=some g)(hs:Sat H w)(h:H g=some (.ro (A9e k zs))):Lib.TabIs P w name k zs:=by
 obtain⟨c,T,fz,h1,h2,h3⟩:=hs g _ h
 unfold Lib.TabIs World.var?
 rw[hg]
 simp only[C9t,h1,C91]
 apply Array.ext
 ·simpa [A9e]using h2
 ·intro i hi1 hi2
  simp at hi2
  have:=(h3 i (.int k zs[i]) (by simp[A9e,hi2])).2
  have e:=this.int_inv
  simp[hi1]at e
  simp[e]
theorem B1I(w:World)(k:Nat)(os:Array Go.Obj):Below w.heap.size w (Sort.grow (w.drewN k) os):=
 ⟨rfl,rfl,rfl,by simp[Sort.grow,World.drewN],fun i hi=>by
  have:(w.drewN k).heap=w.heap:=rfl
  simp only[Sort.grow,this]
  rw[Array.getElem?_append,if_pos hi]⟩
theorem A9f(w:World)(e:TypeId)(s:ByteArray):Below w.heap.size w (Lib.bytesWorld w e s):=
 ⟨rfl,rfl,rfl,by rw[Lib.bytesWorld_size];omega,fun i hi=>Lib.bytesWorld_at_old w e s i hi⟩
end Go.Av
end
section
namespace Go.Lexs
open Go.Av
def U6(c:Int):Bool:=decide (48≤c)&&decide (c≤57)
def B2P(c:Int):Bool:=(decide (97≤c)&&decide (c≤122))||(decide (65≤c)&&decide (c≤90))
def B2Q(c:Int):Bool:=B2P c||U6 c||decide (c=95)
def C5u(c:Int):Bool:=decide (32≤c)&&decide (c≤126)&&decide (c≠34)&&decide (c≠92)
def C2J(c:Int):Bool:=decide (c=32)||decide (c=9)||decide (c=10)||decide (c=13)
theorem A1E(c:Int):U6 c=true↔48≤c∧c≤57:=by simp[U6]
def ofB(p:Int→Bool)(c:UInt8):Bool:=p (c.toNat:Int)
def C2K(l:List UInt8):Bool:=l.all (ofB C5u)&&decide (l.length≤200)
theorem A2V(p:Int→Bool)(l:List UInt8)(k:Nat)(hk:k<l.length):(l.take (k+1)).all (ofB p)=((l.take k).all (ofB p)&&p (nth l k)):=by
 rw[C9i hk,D0T]
 simp[hk,ofB,nth]
theorem A3E(p:Int→Bool)(l:List UInt8)(k:Nat)(hk:k<l.length)(h:p (nth l k)=false):l.all (ofB p)=false:=by
 rw[List.all_eq_false]
 exact⟨l[k],C9d hk,by simpa [hk,ofB,nth]using h⟩
def adv(p:Int×Int)(c:UInt8):Int×Int:=if c.toNat=10 then(p.1+1,1)else(p.1,p.2+1)
def place(l:List UInt8)(i:Nat):Int×Int:=(l.take i).foldl adv (1,1)
def A75:List UInt8→Nat
 | []=>0
 |c::r=>if c.toNat=10 then 0 else A75 r+1
def B8a(l:List UInt8):Bool:=List.isPrefixOf [47,47] l
def B5S:Nat→List UInt8→Nat
 |0,_=>0
 |_+1,[]=>0
 |n+1,c::r=>if ofB C2J c then 1+B5S n r else if B8a (c::r)then A75 (c::r)+B5S n ((c::r).drop (A75 (c::r)))else 0
def sk(l:List UInt8):Nat:=B5S l.length l
def B5T(l:List UInt8)(i:Nat):Nat:=i+sk (l.drop i)
structure Tok where
 kind:Int
 text:List UInt8
 n:Int
 deriving DecidableEq
def A3F(p:Int→Bool):List UInt8→Nat
 | []=>0
 |c::r=>if ofB p c then A3F p r+1 else 0
def C5v:List UInt8→Nat:=List.foldl (fun n c=>10*n+(c.toNat-48)) 0
def B5U(signs:List (List UInt8))(l:List UInt8):Nat:=signs.foldl (fun n s=>if n<s.length∧List.isPrefixOf s l=true then s.length else n) 0
def A5j:List UInt8→Nat
 | []=>0
 |c::r=>if c.toNat=34 then 0 else A5j r+1
def C7y(signs:List (List UInt8))(l:List UInt8):Option (Tok×Nat):=
 if B2P (nth l 0)then(if A3F B2Q l≤40 then some (⟨1,l.take (A3F B2Q l),0⟩,A3F B2Q l)else none)
 else if U6 (nth l 0)then
  (if C5v (l.take (A3F U6 l))≤2147483647∧¬(A3F U6 l<l.length∧B2Q (nth l (A3F U6 l))=true)then some (⟨2,[],C5v (l.take (A3F U6 l))⟩,A3F U6 l)else none)
 else if nth l 0=34 then
  (if A5j (l.drop 1)<(l.drop 1).length∧C2K ((l.drop 1).take (A5j (l.drop 1)))=true then some (⟨3,(l.drop 1).take (A5j (l.drop 1)),0⟩,A5j (l.drop 1)+2)else none)
 else if B5U signs l=0 then none else some (⟨4,l.take (B5U signs l),0⟩,B5U signs l)
def C5w(signs:List (List UInt8))(l:List UInt8):Nat→Nat→List (Tok×Nat)→Except Nat (List (Tok×Nat))
 |0,_,acc=>.ok acc
 |f+1,i,acc=>if i<l.length then match C7y signs (l.drop i)with
  |none=>.error i
  |some (t,k)=>C5w signs l f (B5T l (i+k)) (acc++[(t,i)])
  else .ok acc
def cut(signs:List (List UInt8))(l:List UInt8):Except Nat (List (Tok×Nat)):=C5w signs l (l.length+1) (B5T l 0) []
end Go.Lexs
end
section
namespace Go.Lin
open Go Go.Av Go.Lexs
structure LTm where
 v:ByteArray
 c:Int
 deriving DecidableEq
instance:Inhabited LTm:=⟨⟨⟨#[]⟩,0⟩⟩
structure LinV where
 t:List LTm
 k:Int
 e:Bool
 deriving DecidableEq
instance:Inhabited LinV:=⟨⟨[],0,false⟩⟩
structure VlV where
 v:ByteArray
 n:Int
 deriving DecidableEq
instance:Inhabited VlV:=⟨⟨⟨#[]⟩,0⟩⟩
abbrev Q7(t:LTm):List D:=[.str t.v,.int .i64 t.c]
abbrev E3(a:LinV):List D:=[.sl 2 (Rw Q7 a.t),.int .i64 a.k,.bool a.e]
abbrev vlC(x:VlV):List D:=[.str x.v,.int .i64 x.n]
theorem B1J(a:LinV):E3 a= [.sl 2 (Rw Q7 a.t),.int .i64 a.k,.bool a.e]:=rfl
def W0(n:Int):Prop:= -9223372036854775808≤n∧n≤9223372036854775807
structure a7(a:LinV):Prop where
 len:a.t.length≤5864062014639
 str: ∀t∈a.t,t.v.size≤140737488351232
 co: ∀t∈a.t,W0 t.c
 ko:W0 a.k
structure A4U(l:List VlV):Prop where
 len:l.length≤5864062014639
 str: ∀t∈l,t.v.size≤140737488351232
 no: ∀t∈l,W0 t.n
def U7(c:Int):Bool:=decide (33≤c)&&decide (c≤126)&&decide (c≠43)&&decide (c≠45)&&decide (c≠42)&&decide (c≠60)&&decide (c≠62)&&decide (c≠61)
def H8(l:List UInt8):Bool:=decide (l≠[])&&decide (l.length≤200)&& !U6 (nth l 0)&&l.all (ofB U7)
theorem A60(c:Int):U7 c=true↔33≤c∧c≤126∧c≠43∧c≠45∧c≠42∧c≠60∧c≠62∧c≠61:=by simp[U7,and_assoc]
theorem A3G{c:Int}(h: ¬(33≤c∧c≤126∧c≠43∧c≠45∧c≠42∧c≠60∧c≠62∧c≠61)):U7 c=false:=by rw[←D0l,A60];exact h
def j8(x y:ByteArray):Bool:=Op.bytesLess (B x) (B y)
theorem B5V(x:List UInt8): ∀y,Op.bytesLess x y=true↔x<y:=by
 induction x with
 |nil=>intro y;cases y<;>simp[Op.bytesLess]
 |cons a x ih=>
  intro y
  cases y with
  |nil=>simp[Op.bytesLess]
  |cons b y=>
   simp only[Op.bytesLess,List.cons_lt_cons_iff,D0m,C9c,C9l,beq_iff_eq,ih y]
theorem A3H(x y:ByteArray):j8 x y=true↔B x<B y:=B5V _ _
theorem j9(x:ByteArray):j8 x x=false:=by
 rw[←D0l,A3H];exact List.lt_irrefl _
theorem X8{x y z:ByteArray}(h:j8 x y=true)(g:j8 y z=true):j8 x z=true:=by
 rw[A3H]at*;exact List.lt_trans h g
theorem B8b{x y:ByteArray}(h:j8 x y=false)(hne:x≠y):j8 y x=true:=by
 rw[←D0l,A3H]at h
 rw[A3H]
 have:B x≠B y:=fun e=>hne (by rw[←S_B x,←S_B y,e])
 by_cases g:B y<B x
 ·exact g
 ·exact absurd (List.le_antisymm (List.not_lt.1 g) (List.not_lt.1 h)) this
def N1(n most:Int):Bool:=decide (-most≤n)&&decide (n≤most)
def A6Y(l:List LTm)(i:Nat):Bool:=
 H8 (B (l.getD i default).v)&&(decide (i=0)||j8 (l.getD (i-1) default).v (l.getD i default).v)&&decide ((l.getD i default).c≠0)&&N1 (l.getD i default).c 1048576
def l4(l:List LTm):Bool:=(List.range l.length).all (A6Y l)
def validL(a:LinV):Bool:=l4 a.t&&decide (a.t.length≤12)&&N1 a.k 1099511627776
def up:List ByteArray→Bool
 | []=>true
 | [_]=>true
 |x::y::l=>j8 x y&&up (y::l)
def P6:List ByteArray→ByteArray→List ByteArray
 | [],s=>[s]
 |x::l,s=>if j8 x s=true then x::P6 l s else if x=s then x::l else s::x::l
def O4(l:List LinV):List ByteArray:=l.flatMap fun c=>c.t.map (·.v)
def A1j(l:List LinV):List ByteArray:=(O4 l).foldl P6 []
theorem A61(l:List ByteArray)(s x:ByteArray):x∈P6 l s↔x∈l∨x=s:=by
 induction l with
 |nil=>simp[P6]
 |cons y l ih=>
  unfold P6
  split
  ·simp only[C9r,ih];constructor
   ·rintro(h|h|h)
    ·exact .inl (.inl h)
    ·exact .inl (.inr h)
    ·exact .inr h
   ·rintro((h|h)|h)
    ·exact .inl h
    ·exact .inr (.inl h)
    ·exact .inr (.inr h)
  ·split
   ·rename_i e;subst e;simp only[C9r];constructor
    ·exact .inl
    ·rintro(h|h)
     ·exact h
     ·exact .inl h
   ·simp only[C9r];constructor
    ·rintro(h|h)
     ·exact .inr h
     ·exact .inl h
    ·rintro(h|h)
     ·exact .inr h
     ·exact .inl h
theorem B5W{l:List ByteArray}{s:ByteArray}(h:l.Pairwise fun x y=>j8 x y=true):(P6 l s).Pairwise fun x y=>j8 x y=true:=by
 induction l with
 |nil=>exact List.pairwise_singleton _ _
 |cons y l ih=>
  unfold P6
  split
  ·rename_i h1
   refine List.Pairwise.cons (fun z hz=>?_) (ih h.of_cons)
   rcases(A61 _ _ _).1 hz with g|rfl
   ·exact List.rel_of_pairwise_cons h g
   ·exact h1
  ·rename_i h1
   split
   ·exact h
   ·rename_i h2
    have h3:=B8b (D0l _ ▸ h1) h2
    refine List.Pairwise.cons (fun z hz=>?_) h
    rcases C9r.1 hz with rfl|hz
    ·exact h3
    ·exact X8 h3 (List.rel_of_pairwise_cons h hz)
theorem A9g(m:List ByteArray): ∀(l:List ByteArray),l.Pairwise (fun x y=>j8 x y=true)→(m.foldl P6 l).Pairwise fun x y=>j8 x y=true:=by
 induction m with
 |nil=>exact fun l h=>h
 |cons s m ih=>exact fun l h=>ih _ (B5W h)
theorem A62(m:List ByteArray)(x:ByteArray): ∀(l:List ByteArray),x∈m.foldl P6 l↔x∈l∨x∈m:=by
 induction m with
 |nil=>intro l;simp
 |cons s m ih=>
  intro l
  rw[List.foldl_cons,ih,A61,C9r,or_assoc]
theorem A9h(l:List LinV):(A1j l).Pairwise fun x y=>j8 x y=true:=A9g _ _ .nil
theorem A63(l:List LinV)(x:ByteArray):x∈A1j l↔x∈O4 l:=by unfold A1j;rw[A62];simp
theorem A5k: ∀{l m:List ByteArray},l.Pairwise (fun x y=>j8 x y=true)→m.Pairwise (fun x y=>j8 x y=true)→(∀x,x∈l↔x∈m)→l=m
 | [],[],_,_,_=>rfl
 | [],y::m,_,_,h=>absurd ((h y).2 (C9a ..)) (by simp)
 |x::l,[],_,_,h=>absurd ((h x).1 (C9a ..)) (by simp)
 |x::l,y::m,hl,hm,h=>by
  have e:x=y:=by
   rcases C9r.1 ((h x).1 (C9a ..))with e|g
   ·exact e
   ·rcases C9r.1 ((h y).2 (C9a ..))with e|g2
    ·exact e.symm
    ·have a1:=List.rel_of_pairwise_cons hm g
     have a2:=List.rel_of_pairwise_cons hl g2
     have:=X8 a1 a2
     rw[j9]at this;cases this
  subst e
  refine congrArg (x:: ·) (A5k hl.of_cons hm.of_cons fun z=>?_)
  constructor
  ·intro hz
   rcases C9r.1 ((h z).1 (C9h _ hz))with rfl|g
   ·have:=List.rel_of_pairwise_cons hl hz;rw[j9]at this;cases this
   ·exact g
  ·intro hz
   rcases C9r.1 ((h z).2 (C9h _ hz))with rfl|g
   ·have:=List.rel_of_pairwise_cons hm hz;rw[j9]at this;cases this
   ·exact g
end Go.Lin
end
section
namespace Go.Fo
open Go Go.Av Go.Lexs Go.Lin
inductive Fm where
 |mk (op:Int) (n:Int) (l:LinV) (s:ByteArray) (ks:List Fm)
namespace Fm
def op:Fm→Int|mk o _ _ _ _=>o
def n:Fm→Int|mk _ n _ _ _=>n
def l:Fm→LinV|mk _ _ l _ _=>l
def s:Fm→ByteArray|mk _ _ _ s _=>s
def ks:Fm→List Fm|mk _ _ _ _ ks=>ks
end Fm
theorem C3T(f:Fm):f= .mk f.op f.n f.l f.s f.ks:=by cases f;rfl
def C1:Fm→List D
 | .mk o n l s ks=>[.int .i64 o,.int .i64 n,.sl 2 (Rw Q7 l.t),.int .i64 l.k,.bool l.e,.str s,.sl 7 (fmsC ks)]
where fmsC:List Fm→List (List D)
 | []=>[]
 |f::fs=>C1 f::fmsC fs
theorem B8c(l:List Fm):C1.fmsC l=Rw C1 l:=by
 induction l with
 |nil=>rfl
 |cons f l ih=>simp only[C1.fmsC,ih];rfl
theorem N2(f:Fm):C1 f= [.int .i64 f.op,.int .i64 f.n,.sl 2 (Rw Q7 f.l.t),.int .i64 f.l.k,.bool f.l.e,.str f.s,.sl 7 (Rw C1 f.ks)]:=by
 cases f;simp only[C1,B8c];rfl
theorem P2{p:Fm→Prop}(h: ∀o n l s ks,(∀k∈ks,p k)→p (.mk o n l s ks)): ∀f,p f
 | .mk o n l s ks=>h o n l s ks (go ks)
where go: ∀ks:List Fm,∀k∈ks,p k
 | [],_,hk=>absurd hk C9s
 |f::fs,k,hk=>(C9r.1 hk).elim (fun e=>e ▸ P2 h f) (go fs k)
inductive FmFit:Fm→Prop
 |mk (o n:Int) (l:LinV) (s:ByteArray) (ks:List Fm) (ho:W0 o) (hn:W0 n) (hl:a7 l) (hs:s.size≤140737488351232) (hk:ks.length≤1466015503658) (h: ∀k∈ks,FmFit k):FmFit (.mk o n l s ks)
def A1k(c:Int):Bool:=decide (c≠40)&&decide (c≠41)&&decide (c≠44)&&decide (c≠33)&&decide (c≠38)&&decide (c≠124)&&decide (c≠63)
def plainB(s:ByteArray):Bool:=H8 (B s)&&(B s).all (ofB A1k)
def A9i(l:LinV):Bool:=decide (l.t= [])&&decide (l.k=0)&& !l.e
def D5(f:Fm):Bool:=
 if f.op=1 then(decide (f.n=0)||decide (f.n=1))&&decide (f.s.size=0)&&A9i f.l&&f.ks.isEmpty
 else if f.op=2 then decide (f.n=0)&&decide (f.s.size=0)&&f.ks.isEmpty&&validL f.l&&f.l.t.all fun t=>plainB t.v
 else if f.op=3 then decide (f.n=0)&&A9i f.l&&f.ks.isEmpty&&plainB f.s
 else if f.op=4 then decide (f.n=0)&&decide (f.s.size=0)&&A9i f.l&&decide (f.ks.length=1)
 else if f.op=5∨f.op=6 then decide (f.n=0)&&decide (f.s.size=0)&&A9i f.l
 else false
def N7:Fm→Nat
 | .mk _ _ _ _ ks=>1+nodesL ks
where nodesL:List Fm→Nat
 | []=>0
 |f::fs=>N7 f+nodesL fs
def P3:Fm→Nat
 | .mk _ _ _ _ ks=>1+deepL ks
where deepL:List Fm→Nat
 | []=>0
 |f::fs=>max (P3 f) (deepL fs)
def G7(p:Fm→Bool):Fm→Bool
 | .mk o n l s ks=>p (.mk o n l s ks)&&allK ks
where allK:List Fm→Bool
 | []=>true
 |f::fs=>G7 p f&&allK fs
def A0Y:Fm→List ByteArray×List ByteArray→List ByteArray×List ByteArray
 | .mk o _ l s ks,(a,b)=>namesK ks ((l.t.map (·.v)).foldl P6 a,if o=3 then P6 b s else b)
where namesK:List Fm→List ByteArray×List ByteArray→List ByteArray×List ByteArray
 | [],p=>p
 |f::fs,p=>namesK fs (A0Y f p)
def meetL(l m:List ByteArray):Bool:=l.any fun s=>m.any fun t=>decide (s=t)
def E4(f:Fm):Bool:=G7 D5 f&&decide (P3 f≤60)&&decide (N7 f≤200)&& !meetL (A0Y f ([],[])).1 (A0Y f ([],[])).2&&decide ((A0Y f ([],[])).1.length+(A0Y f ([],[])).2.length≤12)
end Go.Fo
end
section
namespace Go.Proofs
open Go.RowKit Go.Maps Go.Sort Go.Shelf

--maps.Keys[map[string]bool,string,bool] (function 47;its iterator 89) · slices.Sorted[string] (46) · slices.Sort[[]string,string] (88) · the map's type 72,the keys' 9
def Tryz.keys47_ren:Go.Shelf.Ren:=⟨fun|7=>47|10=>89|n=>n,fun|23=>72|26=>9|3=>4|28=>77|0=>0|27=>76|33=>123|4=>4|n=>n,fun|n=>n⟩
theorem A14:SlLaysZ.n7 Tryz.prog Tryz.keys47_ren:={
 mixed:=by kernel_rfl
 f7:=Exists.intro "maps.Keys[map[string]bool,string,bool]" ⟨C9Q (by kernel_rfl),(Tryz.func47).trans (congrArg some (by kernel_rfl))⟩
 f10:=Exists.intro "maps.Keys[map[string]bool,string,bool]$1" ⟨C9Q (by kernel_rfl),(Tryz.func89).trans (congrArg some (by kernel_rfl))⟩
 t0:=Tryz.underlying0
 a0:=Tryz.isAgg0
 z0:=Tryz.sizeOf0
 v0:=Tryz.zeroValue0
 t4:=Tryz.underlying4
 a4:=Tryz.isAgg4
 z4:=Tryz.sizeOf4
 v4:=Tryz.zeroValue4
 t23:=Tryz.underlying72
 a23:=Tryz.isAgg72
 z23:=Tryz.sizeOf72
 v23:=Tryz.zeroValue72
 t26:=Tryz.underlying9
 a26:=Tryz.isAgg9
 z26:=Tryz.sizeOf9
 v26:=Tryz.zeroValue9
 t27:=Tryz.underlying76
 a27:=Tryz.isAgg76
 z27:=Tryz.sizeOf76
 v27:=Tryz.zeroValue76
 t28:=Tryz.underlying77
 a28:=Tryz.isAgg77
 z28:=Tryz.sizeOf77
 v28:=Tryz.zeroValue77
 t33:=Tryz.underlying123
 a33:=Tryz.isAgg123
 z33:=Tryz.sizeOf123
 v33:=Tryz.zeroValue123}
def Tryz.sorted46_ren:Go.Shelf.Ren:=⟨fun|6=>46|8=>87|9=>88|11=>132|13=>134|12=>133|23=>169|24=>170|14=>160|15=>161|16=>162|17=>163|18=>164|19=>165|20=>166|21=>167|22=>168|25=>203|26=>204|27=>205|28=>206|29=>207|30=>208|31=>231|n=>n,fun|26=>9|28=>77|24=>31|0=>0|3=>3|37=>163|48=>194|50=>196|4=>4|40=>188|39=>187|45=>92|5=>5|9=>9|51=>226|55=>230|57=>256|58=>257|33=>123|n=>n,fun|n=>n⟩
theorem A2a:SlLaysZ.n6 Tryz.prog Tryz.sorted46_ren:={
 mixed:=by kernel_rfl
 f6:=Exists.intro "slices.Sorted[string]" ⟨C9Q (by kernel_rfl),(Tryz.func46).trans (congrArg some (by kernel_rfl))⟩
 f8:=Exists.intro "slices.Collect[string]" ⟨C9Q (by kernel_rfl),(Tryz.func87).trans (congrArg some (by kernel_rfl))⟩
 f11:=Exists.intro "slices.AppendSeq[[]string,string]" ⟨C9Q (by kernel_rfl),(Tryz.func132).trans (congrArg some (by kernel_rfl))⟩
 t0:=Tryz.underlying0
 a0:=Tryz.isAgg0
 z0:=Tryz.sizeOf0
 v0:=Tryz.zeroValue0
 t24:=Tryz.underlying31
 a24:=Tryz.isAgg31
 z24:=Tryz.sizeOf31
 v24:=Tryz.zeroValue31
 t26:=Tryz.underlying9
 a26:=Tryz.isAgg9
 z26:=Tryz.sizeOf9
 v26:=Tryz.zeroValue9
 t28:=Tryz.underlying77
 a28:=Tryz.isAgg77
 z28:=Tryz.sizeOf77
 v28:=Tryz.zeroValue77
 i26:=by kernel_rfl}
def Tryz.sort88_ren:Go.Shelf.Ren:=⟨fun|6=>88|8=>134|9=>133|19=>169|20=>170|21=>160|22=>161|23=>162|24=>163|25=>164|26=>165|27=>166|28=>167|29=>168|36=>203|31=>204|32=>205|37=>206|38=>207|39=>208|41=>231|n=>n,fun|27=>31|29=>9|3=>3|32=>163|26=>31|0=>0|44=>194|46=>196|4=>4|36=>188|35=>187|41=>92|5=>5|9=>9|53=>226|57=>230|63=>256|64=>257|n=>n,fun|n=>n⟩
theorem A4j:SlLaysM.n6 Tryz.prog Tryz.sort88_ren:={
 mixed:=by kernel_rfl
 f6:=Exists.intro "slices.Sort[[]string,string]" ⟨C9Q (by kernel_rfl),(Tryz.func88).trans (congrArg some (by kernel_rfl))⟩
 f8:=(Tryz.func134).trans (congrArg some (by kernel_rfl))
 f9:=Exists.intro "slices.pdqsortOrdered[string]" ⟨C9Q (by kernel_rfl),(Tryz.func133).trans (congrArg some (by kernel_rfl))⟩
 f19:=(Tryz.func169).trans (congrArg some (by kernel_rfl))
 f20:=(Tryz.func170).trans (congrArg some (by kernel_rfl))
 f21:=Exists.intro "slices.insertionSortOrdered[string]" ⟨C9Q (by kernel_rfl),(Tryz.func160).trans (congrArg some (by kernel_rfl))⟩
 f22:=Exists.intro "slices.heapSortOrdered[string]" ⟨C9Q (by kernel_rfl),(Tryz.func161).trans (congrArg some (by kernel_rfl))⟩
 f23:=Exists.intro "slices.breakPatternsOrdered[string]" ⟨C9Q (by kernel_rfl),(Tryz.func162).trans (congrArg some (by kernel_rfl))⟩
 f24:=Exists.intro "slices.choosePivotOrdered[string]" ⟨C9Q (by kernel_rfl),(Tryz.func163).trans (congrArg some (by kernel_rfl))⟩
 f25:=Exists.intro "slices.reverseRangeOrdered[string]" ⟨C9Q (by kernel_rfl),(Tryz.func164).trans (congrArg some (by kernel_rfl))⟩
 f26:=Exists.intro "slices.partialInsertionSortOrdered[string]" ⟨C9Q (by kernel_rfl),(Tryz.func165).trans (congrArg some (by kernel_rfl))⟩
 f27:=Exists.intro "cmp.Less[string]" ⟨C9Q (by kernel_rfl),(Tryz.func166).trans (congrArg some (by kernel_rfl))⟩
 f28:=Exists.intro "slices.partitionEqualOrdered[string]" ⟨C9Q (by kernel_rfl),(Tryz.func167).trans (congrArg some (by kernel_rfl))⟩
 f29:=Exists.intro "slices.partitionOrdered[string]" ⟨C9Q (by kernel_rfl),(Tryz.func168).trans (congrArg some (by kernel_rfl))⟩
 f31:=(Tryz.func204).trans (congrArg some (by kernel_rfl))
 f32:=(Tryz.func205).trans (congrArg some (by kernel_rfl))
 f36:=Exists.intro "slices.siftDownOrdered[string]" ⟨C9Q (by kernel_rfl),(Tryz.func203).trans (congrArg some (by kernel_rfl))⟩
 f37:=Exists.intro "slices.medianAdjacentOrdered[string]" ⟨C9Q (by kernel_rfl),(Tryz.func206).trans (congrArg some (by kernel_rfl))⟩
 f38:=Exists.intro "slices.medianOrdered[string]" ⟨C9Q (by kernel_rfl),(Tryz.func207).trans (congrArg some (by kernel_rfl))⟩
 f39:=Exists.intro "cmp.isNaN[string]" ⟨C9Q (by kernel_rfl),(Tryz.func208).trans (congrArg some (by kernel_rfl))⟩
 f41:=Exists.intro "slices.order2Ordered[string]" ⟨C9Q (by kernel_rfl),(Tryz.func231).trans (congrArg some (by kernel_rfl))⟩
 t0:=Tryz.underlying0
 a0:=Tryz.isAgg0
 z0:=Tryz.sizeOf0
 v0:=Tryz.zeroValue0
 t3:=Tryz.underlying3
 a3:=Tryz.isAgg3
 z3:=Tryz.sizeOf3
 v3:=Tryz.zeroValue3
 t4:=Tryz.underlying4
 a4:=Tryz.isAgg4
 z4:=Tryz.sizeOf4
 v4:=Tryz.zeroValue4
 t5:=Tryz.underlying5
 a5:=Tryz.isAgg5
 z5:=Tryz.sizeOf5
 v5:=Tryz.zeroValue5
 t9:=Tryz.underlying9
 a9:=Tryz.isAgg9
 z9:=Tryz.sizeOf9
 v9:=Tryz.zeroValue9
 t26:=Tryz.underlying31
 a26:=Tryz.isAgg31
 z26:=Tryz.sizeOf31
 v26:=Tryz.zeroValue31
 t27:=Tryz.underlying31
 a27:=Tryz.isAgg31
 z27:=Tryz.sizeOf31
 v27:=Tryz.zeroValue31
 t29:=Tryz.underlying9
 a29:=Tryz.isAgg9
 z29:=Tryz.sizeOf9
 v29:=Tryz.zeroValue9
 t32:=Tryz.underlying163
 a32:=Tryz.isAgg163
 z32:=Tryz.sizeOf163
 v32:=Tryz.zeroValue163
 t35:=Tryz.underlying187
 a35:=Tryz.isAgg187
 z35:=Tryz.sizeOf187
 v35:=Tryz.zeroValue187
 t36:=Tryz.underlying188
 a36:=Tryz.isAgg188
 z36:=Tryz.sizeOf188
 v36:=Tryz.zeroValue188
 t41:=Tryz.underlying92
 a41:=Tryz.isAgg92
 z41:=Tryz.sizeOf92
 v41:=Tryz.zeroValue92
 t44:=Tryz.underlying194
 a44:=Tryz.isAgg194
 z44:=Tryz.sizeOf194
 v44:=Tryz.zeroValue194
 t46:=Tryz.underlying196
 a46:=Tryz.isAgg196
 z46:=Tryz.sizeOf196
 v46:=Tryz.zeroValue196
 t53:=Tryz.underlying226
 a53:=Tryz.isAgg226
 z53:=Tryz.sizeOf226
 v53:=Tryz.zeroValue226
 t57:=Tryz.underlying230
 a57:=Tryz.isAgg230
 z57:=Tryz.sizeOf230
 v57:=Tryz.zeroValue230
 t63:=Tryz.underlying256
 a63:=Tryz.isAgg256
 z63:=Tryz.sizeOf256
 v63:=Tryz.zeroValue256
 t64:=Tryz.underlying257
 a64:=Tryz.isAgg257
 z64:=Tryz.sizeOf257
 v64:=Tryz.zeroValue257}
theorem A3i(m:Nat):AnyZ.SortsIn Tryz.prog Tryz.sorted46_ren Fence.wide m:=
  ⟨fun blk off cap ss W hH hblk hsz=>callsIn_wide.2 (AnyM.slices_Sort_string A4j blk off cap ss W hH hblk hsz),
   fun p cap W=>callsIn_wide.2 (AnyM.slices_Sort_string_none A4j p cap W)⟩
theorem A0R(mb:Option Nat)(W:World):CallsIn Fence.wide 5 Tryz.prog 47 #[.map mb] W fun e w'=>e= .returned (.func (.func 89) #[] #[.pointer (some ⟨W.heap.size,0,none⟩)])∧w'=W.alloc (.cells #[.map mb] 72):=
 AnyZ.keys_in A14 Fence.wide 5 trivial rfl mb W
end Go.Proofs
end
section
namespace Go.Lin
open Go Go.Av Go.RowKit Go.Maps Go.Sort Go.Shelf Go.Lexs Go.WideElems
theorem A4V{H:Type}(x:Lit×DataW H): ∀l:List (Lit×DataW H),(DataW.insert x l).Perm (x::l)
 | []=>List.Perm.refl _
 |y::l=>by
  unfold DataW.insert
  split
  ·exact List.Perm.refl _
  ·exact((A4V x l).cons y).trans (List.Perm.swap x y l)
theorem y3{H:Type}: ∀l:List (Lit×DataW H),(l.foldr DataW.insert []).Perm l
 | []=>List.Perm.refl _
 |x::l=>(A4V x _).trans ((y3 l).cons x)
def A1W{H:Type}:Value→Option (DataW H×List MemPlace):=fun _=>some (.lit (.bool true),[])
def C9(f:ByteArray→D)(ks:List ByteArray):List (D×D):=ks.map fun s=>(.str s,f s)
theorem B2R{ss:List (List UInt8)}(hnd:ss.Nodup):((ss.mergeSort (fun x y=>decide (x≤y))).map S).Pairwise fun x y=>j8 x y=true:=by
 have h1:(ss.mergeSort (fun x y=>decide (x≤y))).Pairwise (fun x y=>decide (x≤y)=true):=List.pairwise_mergeSort (fun a b c h1 h2=>by simp only[C9l]at*;exact List.le_trans h1 h2) (fun a b=>by simp only[D0m,C9l];exact List.le_total a b) ss
 have h2:(ss.mergeSort (fun x y=>decide (x≤y))).Nodup:=(List.mergeSort_perm ss _).nodup_iff.2 hnd
 rw[List.pairwise_map]
 refine(h1.and h2).imp fun {x y} h=>?_
 rw[A3H,l9,l9]
 have hle:x≤y:=C9Q h.1
 by_cases g:x<y
 ·exact g
 ·exact absurd (List.le_antisymm hle (List.not_lt.1 g)) h.2
end Go.Lin
namespace Go.Proofs.YtibphjonmikciaaGreatDoor
open Go Go.Av Go.RowKit Go.Maps Go.Sort Go.Shelf Go.Lexs Go.WideElems Go.Lin
theorem B8d{Q}(b:Nat)(H:Heap)(h: ∀bk,H bk=none→Q (.fn (.func 89) [] [.box bk 0]) (H.set bk (.box [.map b]))):ACalls Tryz.prog 47 [.map b] H Q:=by
 refine⟨by kernel_rfl,fun w vs hl hr hs=>?_⟩
 obtain⟨a,rfl,ha⟩:=A1i hl hr
 have ea:a= .map (some b):=by cases ha;rfl
 subst ea
 refine(callsIn_wide.1 (A0R (some b) w)).mono ?_
 rintro e w' ⟨rfl,rfl⟩
 have hp:=A24 (K:=fun d H'=>∃bk,d= .box bk 0∧H bk=none∧H'=H.set bk (.box [.map b])) hs (cs:=[.map b]) (vs:= #[.map (some b)]) 72 (Z:=none) (by simp) ⟨rfl,fun i d hd=>(match i,hd with|0,hd=>by cases hd;rfl|i+1,hd=>by cases hd),fun i d hd=>(match i,hd with|0,hd=>by cases hd;exact .map b|i+1,hd=>by cases hd)⟩ (fun bk hbk=>⟨bk,rfl,hbk,rfl⟩)
 obtain⟨d,H1,k1,k2,k3,k4,bk,rfl,hbk,rfl⟩:=hp
 refine⟨_,rfl,.fn (.func 89) [] [.box bk 0],_,?_,k2,k3,k4,h bk hbk⟩
 refine .fn _ [] [.box bk 0] #[] #[_] rfl rfl (by simp) fun i d hd=>?_
 match i with
 |0=>cases hd;exact k1
 |i+1=>cases hd
theorem B8e{Q}(bk b:Nat)(f:ByteArray→D)(ks:List ByteArray)(hlen:ks.length≤1000000000)(hsz: ∀s∈ks,s.size≤4611686018427387904)(H:Heap)(h1:H bk=some (.box [.map b]))(h2:H b=some (.map (C9 f ks)))
  (h: ∀l:List ByteArray,l.Pairwise (fun x y=>j8 x y=true)→(∀s,s∈l↔s∈ks)→Q (.sl 1 (Rw j7 l)) H):ACalls Tryz.prog 46 [.fn (.func 89) [] [.box bk 0]] H Q:=by
 refine⟨by kernel_rfl,fun w vs hl hr hs=>?_⟩
 obtain⟨a,rfl,ha⟩:=A1i hl hr
 have ea:a= .func (.func 89) #[] #[.pointer (some ⟨bk,0,none⟩)]:=by
  cases ha with
  |fn _ _ _ us1 us2 hl1 hl2 q1 q2=>
   have e1:us1= #[]:=Array.eq_empty_of_size_eq_zero (by simpa using hl1.symm)
   obtain⟨l2⟩:=us2
   match l2,hl2 with
   | [x],_=>
    have hx:=q2 0 _ rfl
    have:x= .pointer (some ⟨bk,0,none⟩):=by
     simp at hx
     cases hx;rfl
    rw[e1,this]
 subst ea
 obtain⟨c,T,lo,hi,c1,_,c2,c3,_⟩:=hs _ _ h1
 obtain⟨es,clock,m1,m2,m3,m4⟩:=hs _ _ h2
 have hc0:c[0]? =some (.map (some b)):=by
  have h0:=(c3 0 (.map b) rfl).2
  have hsz:0<c.size:=by rw[c2];simp
  have e:c[0]? =some (c.getD 0 undef):=by simp[hsz]
  rw[e]
  revert h0
  generalize c.getD 0 undef=x
  intro h0
  cases h0;rfl
 have hcell:w.cell? ⟨bk,0,none⟩=some (.map (some b)):=by
  unfold World.cell?
  simp only[c1]
  exact hc0
 have hbk:bk<w.heap.size:=hs.lt h1
 have hkey: ∀(i:Nat) (hi:i<ks.length),(es.getD i default).key= .string ks[i]:=fun i hi=>by
  have:=(m4 i (.str ks[i],f ks[i]) (by simp[C9,hi])).2.1
  revert this
  generalize (es.getD i default).key=x
  intro this
  cases this;rfl
 have hes:es.size=ks.length:=by rw[m3];simp[C9]
 have hkl:es.toList.map (·.key)=ks.map .string:=by
  apply D0k
  ·simp[hes]
  ·intro i h1 h2
   have hi:i<ks.length:=by simpa using h2
   have:=hkey i hi
   have hi2:i<es.size:=by omega
   simp[hi2]at this
   simp[this]
 have hko: ∀x∈es.toList,∃s∈ks,x.key= .string s:=fun x hx=>by
  have:x.key∈es.toList.map (·.key):=D0N.2 ⟨x,hx,rfl⟩
  rw[hkl]at this
  obtain⟨s,hs,e⟩:=D0N.1 this
  exact⟨s,hs,e.symm⟩
 have hund:Tryz.prog.underlying 9=some .string:=by kernel_rfl
 have hrd: ∀x∈es.toList,∀s,s∈ks→x.key= .string s→WideElems.rd (H:=Unit) Tryz.prog 9 A1W x=some (.string s.data.toList,.lit (.bool true)):=fun x _ s hs e=>by
  unfold WideElems.rd
  rw[e,WideMaps.keyOf_string_mk hund (by have:=hsz s hs;unfold maxLen;omega)]
  rfl
 have hown:w.ownsMap (H:=Unit) Tryz.prog 9 A1W b es.size (.map ((es.toList.map (rg Tryz.prog 9 A1W)).foldr DataW.insert [])):=by
  refine⟨es,clock,m1,⟨by unfold maxLen;omega,m2,fun x hx=>?_⟩,C9j _,rfl⟩
  obtain⟨s,hs,e⟩:=hko x hx
  exact⟨_,hrd x hx s hs e⟩
 have hrg: ∀x∈es.toList,∀s,s∈ks→x.key= .string s→rg (H:=Unit) Tryz.prog 9 A1W x=(.string s.data.toList,.lit (.bool true)):=fun x hx s hs e=>rg_of (hrd x hx s hs e)
 have hsk:(strKeys (H:=Unit) (.map ((es.toList.map (rg Tryz.prog 9 A1W)).foldr DataW.insert []))).Perm (ks.map B):=by
  show (((es.toList.map (rg Tryz.prog 9 A1W)).foldr DataW.insert []).map fun p=>strOf p.1).Perm _
  refine((y3 _).map _).trans ?_
  rw[List.map_map]
  have:es.toList.map ((fun p=>strOf p.1) ∘ rg (H:=Unit) Tryz.prog 9 A1W)=ks.map B:=by
   have e2:ks.map B=(es.toList.map (·.key)).map (fun v=>match v with| .string s=>B s|_=>[]):=by rw[hkl,List.map_map];rfl
   rw[e2,List.map_map]
   refine List.map_congr_left fun x hx=>?_
   obtain⟨s,hs,e⟩:=hko x hx
   simp only[Function.comp]
   rw[hrg x hx s hs e,e];rfl
  rw[this]
 have hnd:(ks.map B).Nodup:=by
  have:=m2.2.2
  rw[hkl]at this
  have h2:List.Pairwise (fun a b:ByteArray=>Value.string a≠Value.string b) ks:=List.pairwise_map.1 this
  have h3:List.Pairwise (fun a b:ByteArray=>B a≠B b) ks:=h2.imp fun {a b} h e=>h (congrArg Value.string (i6 e))
  exact List.pairwise_map.2 h3
 have hseq:=AnyZ.keys_gives (ρ :=Tryz.keys47_ren) {A14 with} Fence.wide 2 trivial rfl (by omega) bk b es.size _ w hbk hcell hown
 have hms:Maps.size (.map ((es.toList.map (rg (H:=Unit) Tryz.prog 9 A1W)).foldr DataW.insert []):DataW Unit)=ks.length:=by
  show (((es.toList.map (rg Tryz.prog 9 A1W)).foldr DataW.insert [])).length=_
  rw[(y3 _).length_eq];simp[hes]
 refine(callsIn_wide.1 (AnyZ.sorted_in A2a Fence.wide 5 trivial trivial trivial trivial rfl (by omega) (A3i _) (enters_of Tryz.func88 (by kernel_rfl) rfl) 89 #[.pointer (some ⟨bk,0,none⟩)] trivial (enters_of Tryz.func89 (by kernel_rfl) rfl) _ _ (by rw[hms];unfold maxLen;omega) (by rw[hms];omega) w hseq)).mono ?_
 rintro e w' ⟨v,ss,rfl,hS,hrow,_,hB⟩
 have hp:ss.Perm (ks.map B):=hS.trans hsk
 have hsn:ss.Nodup:=hp.nodup_iff.2 hnd
 have hup:=B2R hsn
 have hmem: ∀s,s∈(ss.mergeSort (fun x y=>decide (x≤y))).map S↔s∈ks:=fun s=>by
  rw[D0N]
  constructor
  ·rintro⟨x,hx,rfl⟩
   have:=hp.mem_iff.1 ((List.mergeSort_perm ss _).mem_iff.1 hx)
   obtain⟨t,ht,rfl⟩:=D0N.1 this
   rw[S_B];exact ht
  ·intro hs
   refine⟨B s,(List.mergeSort_perm ss _).mem_iff.2 (hp.mem_iff.2 (D0N.2 ⟨s,hs,rfl⟩)),S_B s⟩
 refine⟨v,rfl,.sl 1 (Rw j7 ((ss.mergeSort (fun x y=>decide (x≤y))).map S)),H,?_,A30 hs hB,A2D hB,D0w _ _,h _ hup hmem⟩
 have hll:((ss.mergeSort (fun x y=>decide (x≤y))).map S).length=ss.length:=by simp
 generalize ss.mergeSort (fun x y=>decide (x≤y))=zs at hrow hll⊢
 obtain⟨r1,r2⟩:=hrow
 rcases r2 with⟨rfl,r3⟩|⟨g,cap,cur,rfl,r3,r4,r5,r6,r7,r8⟩
 ·have:zs.map S= []:=C9n (by rw[hll,r3])
  rw[this]
  exact .sl0 _ _ _
 ·have hlz:(Rw j7 (zs.map S)).length=ss.length:=by rw[D6,hll]
  rw[←hlz]
  refine .sl 1 _ g 0 cap (fun i j=>cur.getD i undef) ?_ ?_ (fun i e he=>?_) (by rw[hlz];exact r5) (fun i j hi hj=>?_) (fun i e j d he hd=>?_) (fun i e j d he hd=>?_)
  ·by_cases hlt:g<w'.heap.size
   ·exact hlt
   ·rw[Array.getElem?_eq_none (Nat.le_of_not_lt hlt)]at r4;cases r4
  ·exact G8 (hs.fresh r3)
  ·rw[Rw,C9m]at he
   obtain⟨x,_,rfl⟩:=C9Y.1 he
   rfl
  ·have hj0:j=0:=by omega
   subst hj0
   have hi2:i<cur.size:=by rw[hlz]at hi;rw[r7];omega
   unfold World.cell?
   simp only[r4]
   simp[hi2]
  ·rw[Rw,C9m]at he
   obtain⟨x,_,rfl⟩:=C9Y.1 he
   match j with
   |0=>cases hd;rfl
   |j+1=>cases hd
  ·rw[Rw,C9m,C9m]at he
   obtain⟨x,hx,rfl⟩:=C9Y.1 he
   obtain⟨z,hz,rfl⟩:=C9Y.1 hx
   match j with
   |0=>
    cases hd
    have hi:i<zs.length:=(C9Z.1 hz).1
    have h3:(cur.toList.take (ss.length*1))[i]? =some (encStr z):=by rw[r8,C9m,hz];rfl
    rw[List.getElem?_take]at h3
    split at h3
    ·have:cur[i]? =some (encStr z):=by simpa using h3
     have e:cur.getD i undef=encStr z:=by
      have hi2:=(C9o.1 this)
      obtain⟨hi3,hi4⟩:=hi2
      simp[hi3,hi4]
     rw[e]
     exact .str _
    ·cases h3
   |j+1=>cases hd
end Go.Proofs.YtibphjonmikciaaGreatDoor
end
